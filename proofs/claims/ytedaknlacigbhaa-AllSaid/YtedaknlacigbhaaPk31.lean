/-
  Lemmas towards the law, proved without conditions of their own: THE LAW: a step that is a Run; a step of any kind; looks; UpTo with all. (Printed by wip/tools/gen_laa.py.); THE LAW: UpTo with every step, and what was handed out. (Printed by wip/tools/gen_lab.py.); THE SCRIPT OF THE STATEMENTS, with its lists of steps; all that there is, to be read alone. (Printed by wip/tools/gen_je.py.).
-/
import Derived.Test.YtedaknlacigbhaaPk26
import Derived.Test.YtedaknlacigbhaaPk30
import Derived.Test.YtedaknlacigbhaaPk29
namespace Go.Br
open Go Go.Lx Go.Proofs
open Go.Lx renaming rg_move → zA, rg_int → zB, rg_nilCheck → zC, rg_fieldAddr0 → zD, rg_fieldAddr → zE, rg_load → zF, rg_assign → zG, rg_loadAgg → zH, rg_extract → zI, rg_not → zJ, rg_pick → zK, rg_off → zL, rg_offU → zM, rg_store → zN, rg_storeAgg → zO, rg_convInt → zP, rg_done → zQ, ex_seq → zR, rg_start_s → zS, rg_start_d → zT, ex_cond_true → zU, ex_cond_false → zV, rg_alloc → zW, rg_boxAgg → zX, rg_build → zY, rg_lenSl → zZ, rg_lenMap → yA, ex_skip → yB, ex_block → yC, ex_inBlock → yD, ex_exit → yE, rg_caseG → yZ
set_option maxRecDepth 100000

theorem looks_ok (w B : Nat) (Γ : List Ch) (hB : B < 100000000) :
    CallsX Try.prog 40 #[ptrV w] (.pr (WdAt w B) :: Γ) (fun v Δ => v = .bool true ∧ Ent Δ (.pr (WdAt w B) :: Γ)) := by
  refine CallsX.open_ wd_open fun z ok => ?_
  obtain ⟨ps, us, vs, bv, lv, ev⟩ := z
  dsimp only [wdL]
  have hnu := ok.nu
  have hnv := ok.nv
  dsimp only at hnu hnv
  refine CallsX.ent (front_ent 4) (CallsX.ent (front_ent 2) (CallsX.ent (front_ent 6) (CallsX.ent (front_ent 6) (CallsX.ent (front_ent 6) (CallsX.ent (front_ent 6) (CallsX.ent (front_ent 6) ?_))))))
  refine (looksU_ok w bv lv ev us vs _ (by omega) (by omega) ok.ul ok.vl).mono ?_
  rintro v Δ ⟨rfl, hE⟩
  refine ⟨rfl, Ent.trans hE ?_⟩
  (refine Ent.trans (front_ent 4) ?_; refine Ent.trans (front_ent 4) ?_; refine Ent.trans (front_ent 6) ?_; refine Ent.trans (front_ent 5) ?_; refine Ent.trans (front_ent 5) ?_; refine Ent.trans (front_ent 6) ?_; refine Ent.trans (front_ent 6) ?_)
  exact EntR.e (wd_fold ⟨ps, us, vs, bv, lv, ev⟩ ok)

set_option maxHeartbeats 16000000 in
theorem step8_ok {X : Tgt} (hX : Co Try.prog X) (w : Nat) (oa oc on' od : Int) (os : Stp) (va vb : Option Addr) (ca cb : Nat) (xs ys : List Stp) (B : Nat) (Γ : List Ch) (hB : B + xs.length + ys.length < 4000000) (ha : -9223372036854775808 ≤ oa ∧ oa < 9223372036854775808)
    (hx : ∀ x ∈ xs, 0 ≤ x.n ∧ x.n < 18446744073709551616) (hy : ∀ x ∈ ys, 0 ≤ x.n ∧ x.n < 18446744073709551616) :
    CallsA Try.prog X 38 #[ptrV w, .agg ⟨[.int .i64 8, .int .i64 oa, .int .i64 oc, .int .i64 os.kind, .int .u64 os.n, .int .u64 os.p.seq, .int .i64 os.p.frm, .int .i64 os.p.to, .int .i64 os.p.coin, .int .u64 os.p.amount, .int .u64 os.p.height, .int .u64 os.p.time, .slice va xs.length ca, .slice vb ys.length cb, .int .u64 on', .int .i64 od]⟩]
      (.pr (WdAt w B) :: .pr (StepsAt (.slice va xs.length ca) xs) :: .pr (StepsAt (.slice vb ys.length cb) ys) :: Γ) (fun v Δ => v = .bool true ∧ Ent Δ (.pr (WdAt w (B + 1 + xs.length + ys.length)) :: Γ)) := by
  refine CallsA.open_ wd_open fun z ok => ?_
  obtain ⟨ps, us, vs, bv, lv, ev⟩ := z
  dsimp only [wdL]
  have hnp := ok.np
  have hnu := ok.nu
  have hnv := ok.nv
  dsimp only at hnp hnu hnv
  refine CallsA.ent (front_ent 1) (CallsA.open_ (slp_shapeO (p := true)) fun q hq => ?_)
  obtain ⟨ba, bc⟩ := q
  dsimp only at hq
  subst hq
  refine calls_of_bodyA (args := [ptrV w, .agg ⟨[.int .i64 8, .int .i64 oa, .int .i64 oc, .int .i64 os.kind, .int .u64 os.n, .int .u64 os.p.seq, .int .i64 os.p.frm, .int .i64 os.p.to, .int .i64 os.p.coin, .int .u64 os.p.amount, .int .u64 os.p.height, .int .u64 os.p.time, .slice va xs.length ca, .slice vb ys.length cb, .int .u64 on', .int .i64 od]⟩]) Try.func38 rfl Try.ntmps38 fun cs ret => ?_
  refine ex_seq (rg_start_s (rg_boxAgg rfl fun bo => ?_))
  (refine Rg.front 3 ?_; refine Rg.front 2 ?_; refine Rg.front 3 ?_; refine Rg.front 3 ?_)
  repeat (first|refine zA rfl ?_|refine zB rfl rfl rfl ?_|refine zC rfl ?_|refine zD rfl ?_|refine zF rfl ?_|refine zG rfl ?_|refine zQ ?_|refine zR ?_|refine zS ?_|refine zV rfl ?_|refine zZ rfl ?_|refine yB ?_)
  refine ex_cond_split rfl (fun k0 => ?_) (fun k0 => ?_)
  · repeat (first|refine zG rfl ?_|refine zQ ?_|refine zR ?_|refine zS ?_)
    (refine Ex.front 7 ?_; refine Ex.front 7 ?_; refine Ex.front 7 ?_; refine Ex.front 7 ?_; refine Ex.front 7 ?_; refine Ex.front 7 ?_; refine Ex.front 7 ?_; refine Ex.front 9 ?_; refine Ex.front 9 ?_; refine Ex.front 9 ?_)
    exact ex_rete ret Try.func38 rfl (Ent.drop (Ent.drop (Ent.drop (Ent.refl _)))) ⟨rfl, EntR.e (wd_fold ⟨ps, us, vs, .slice ba ps.length bc, lv, ev⟩ (ok.mono (by omega)))⟩
  have k0 := of_decide_eq_false k0
  have hpos : 0 < ps.length := by omega
  repeat (first|refine zR ?_|refine yB ?_)
  (refine Ex.front 2 ?_)
  refine ex_slp (p := true) (fun _ _ h => absurd h (by omega)) (fun bb bcap bslack hq hz => ?_)
  simp only [Value.slice.injEq, true_and] at hq
  obtain ⟨rfl, rfl⟩ := hq
  (refine rg_start_p [0, 1, 2, 3, 4, 5, 6, 7, 8, 9, 10, 11, 12, 13, 14, 15] (by decide +kernel) (by decide +kernel) (by simp only [permL, List.getElem?_cons_succ, List.getElem?_cons_zero]; rfl) ?_)
  repeat (first|refine zA rfl ?_|refine zC rfl ?_|refine zD rfl ?_|refine zE rfl ?_|refine zF rfl ?_|refine zZ rfl ?_)
  refine rg_callQ rfl (fun Δ => pick_ok oa ps.length Δ ha hpos) ?_
  have hi : pickI oa ps.length < ps.length := Nat.mod_lt _ hpos
  generalize pickI oa ps.length = i at hi ⊢
  refine rg_indexSl rfl rfl ⟨by omega, by omega⟩ ?_
  rw [Int.toNat_natCast, Nat.zero_add (i * 2)]
  haveI := sliceL_flatK prC_len ps i hi bslack
  refine rg_loadAgg rfl ?_
  repeat (first|refine zO rfl rfl ?_|refine zQ ?_|refine zR ?_|refine zW fun bl=>?_)
  (refine Ex.front 1 ?_)
  refine Ex.ent (EntR.e (slp_fold bb bc bslack hz)) ?_
  (refine Ex.front 8 ?_; refine Ex.front 8 ?_; refine Ex.front 7 ?_; refine Ex.front 7 ?_; refine Ex.front 4 ?_; refine Ex.front 7 ?_; refine Ex.front 6 ?_; refine Ex.front 7 ?_; refine Ex.front 8 ?_)
  refine Ex.ent (prs_get hi) ?_
  have hok := ok.ok ps[i] (List.getElem_mem hi)
  have hhas := ok.has ps[i] (List.getElem_mem hi)
  have fin : ∀ (ev' l1 l2 : Value) (S' : Bg), BgOk (B + 1 + xs.length + ys.length) S' → BgHas S' → Ent (wdC w (.slice (some ⟨bb, 0, none⟩) ps.length bc) lv ev' false :: .pr (SlV 124 2 (.slice (some ⟨bb, 0, none⟩) ps.length bc) (ps.flatMap prC) ps.length) :: .pr (SlV 53 1 lv (us.map (·.1)) us.length) :: .pr (SlV 23 1 ev' (vs.map (·.1) ++ [l1] ++ [l2]) (vs.length + 1 + 1)) ::
      .pr (BgAt ps[i].x S') :: .pr (ModAt ps[i].m S') :: .pr (Star (prChs (ps.eraseIdx i))) :: .pr (Star (markChs 36 markV 0 us)) :: .pr (SlV 22 1 l1 (List.replicate (xs.length + 2) (errV vs.length)) (xs.length + 2)) :: .pr (Star (markChs 22 errV 0 vs)) :: .pr (SlV 22 1 l2 (List.replicate (ys.length + 2) (errV (vs.length + 1))) (ys.length + 2)) :: Γ) (.pr (WdAt w (B + 1 + xs.length + ys.length)) :: Γ) := fun ev' l1 l2 S' o1 o2 => by
    refine Ent.trans (Ent.cons (Ent.cons (Ent.cons (Ent.cons (Ent.trans (prs_put hi) (Ent.cons (Ent.cons marks_snoc))))))) ?_
    (refine Ent.trans (front_ent 5) ?_; refine Ent.trans (front_ent 5) ?_; refine Ent.trans (front_ent 5) ?_; refine Ent.trans (front_ent 5) ?_; refine Ent.trans (front_ent 5) ?_; refine Ent.trans (front_ent 5) ?_; refine Ent.trans (front_ent 6) ?_; refine Ent.trans (front_ent 7) ?_)
    have hl2 : (vs ++ [(l1, xs.length + 2)]).length = vs.length + 1 := by simp
    rw [← hl2]
    refine Ent.trans marks_snoc ?_
    (refine Ent.trans (front_ent 0) ?_; refine Ent.trans (front_ent 6) ?_; refine Ent.trans (front_ent 6) ?_; refine Ent.trans (front_ent 6) ?_; refine Ent.trans (front_ent 6) ?_; refine Ent.trans (front_ent 6) ?_; refine Ent.trans (front_ent 6) ?_)
    have hl : (ps.set i { ps[i] with S := S' }).length = ps.length := List.length_set
    have := wd_fold (w := w) (B := B + 1 + xs.length + ys.length) (Γ := Γ) ⟨ps.set i { ps[i] with S := S' }, us, vs ++ [(l1, xs.length + 2)] ++ [(l2, ys.length + 2)], .slice (some ⟨bb, 0, none⟩) ps.length bc, lv, ev'⟩ ⟨?_, ?_, by rw [hl]; omega, by show us.length ≤ _; omega, by rw [len_snoc, len_snoc]; have := ok.nv; dsimp only at this ⊢; omega, ok.ul, ?_⟩
    · dsimp only [wdL] at this
      rw [prs_set_fl hi, hl, List.map_append, List.map_append, len_snoc] at this
      exact EntR.e this
    · intro p hp
      rcases List.mem_or_eq_of_mem_set hp with h | h
      · exact (ok.ok p h).mono (by omega)
      · rw [h]; exact o1
    · intro p hp
      rcases List.mem_or_eq_of_mem_set hp with h | h
      · exact ok.has p h
      · rw [h]; exact o2
    · intro u hu
      rcases List.mem_append.1 hu with h | h
      · rcases List.mem_append.1 h with h | h
        · exact ok.vl u h
        · rw [List.mem_singleton.1 h]; show xs.length + 2 < _; omega
      · rw [List.mem_singleton.1 h]; show ys.length + 2 < _; omega
  generalize hpp : ps[i] = pp at *
  obtain ⟨x, m, S⟩ := pp
  dsimp only at hok hhas fin ⊢
  (refine Ex.front 10 ?_; refine Ex.front 10 ?_; refine Ex.front 4 ?_; refine Ex.front 4 ?_; refine Ex.front 4 ?_; refine Ex.front 10 ?_; refine Ex.front 10 ?_; refine Ex.front 10 ?_; refine Ex.front 10 ?_; refine Ex.front 10 ?_; refine Ex.front 10 ?_)
  apply joinC (ι := Bool) (fun g => g = decide (oc = 0 ∨ oc = 1)) (fun g => [(10, .bool g), (9, ptrV bl), (3, ptrV bo), (0, ptrV w)]) (fun _ => .pt bo true (.cells ⟨[.int .i64 8, .int .i64 oa, .int .i64 oc, .int .i64 os.kind, .int .u64 os.n, .int .u64 os.p.seq, .int .i64 os.p.frm, .int .i64 os.p.to, .int .i64 os.p.coin, .int .u64 os.p.amount, .int .u64 os.p.height, .int .u64 os.p.time, .slice va xs.length ca, .slice vb ys.length cb, .int .u64 on', .int .i64 od]⟩ 83 (0, 0)) ::
    .pt bl true (.cells ⟨[ptrV x, ptrV m]⟩ 124 (0, 0)) :: wdC w (.slice (some ⟨bb, 0, none⟩) ps.length bc) lv ev false :: .pr (SlV 124 2 (.slice (some ⟨bb, 0, none⟩) ps.length bc) (ps.flatMap prC) ps.length) :: .pr (SlV 53 1 lv (us.map (·.1)) us.length) :: .pr (SlV 23 1 ev (vs.map (·.1)) vs.length) ::
      .pr (BgAt x S) :: .pr (ModAt m S) :: .pr (Star (prChs (ps.eraseIdx i))) :: .pr (Star (markChs 36 markV 0 us)) :: .pr (Star (markChs 22 errV 0 vs)) :: .pr (StepsAt (.slice va xs.length ca) xs) :: .pr (StepsAt (.slice vb ys.length cb) ys) :: Γ)
  · intro J
    repeat (first|refine zA rfl ?_|refine zB rfl rfl rfl ?_|refine zE rfl ?_|refine zF rfl ?_|refine zS ?_)
    refine rg_caseG rfl rfl (fun g1 => ?_) (fun g1 => ?_)
    · have g1 := of_decide_eq_true g1
      repeat (first|refine zG rfl ?_|refine zK rfl rfl ?_|refine zL rfl rfl rfl rfl (by decide) trivial rfl ?_|refine zQ ?_|refine zR ?_)
      exact Ex.sup (J true (by simp [g1])) ⟨rfl, rfl, rfl, rfl, trivial⟩
    · have g1 := of_decide_eq_false g1
      repeat (first|refine zB rfl rfl rfl ?_|refine zE rfl ?_|refine zF rfl ?_|refine zG rfl ?_|refine zK rfl rfl ?_|refine zQ ?_|refine zR ?_)
      exact Ex.sup (J (decide (oc = 1)) (by simp [g1])) ⟨rfl, rfl, rfl, rfl, trivial⟩
  intro g hg
  repeat (first|refine zA rfl ?_|refine zB rfl rfl rfl ?_|refine zD rfl ?_|refine zF rfl ?_|refine zG rfl ?_|refine zH rfl ?_|refine zQ ?_|refine zR ?_|refine zS ?_|refine zU rfl ?_|refine zV rfl ?_|refine yC ?_)
  (refine Rg.front 10 ?_; refine Rg.front 10 ?_; refine Rg.front 10 ?_; refine Rg.front 7 ?_; refine Rg.front 7 ?_; refine Rg.front 6 ?_; refine Rg.front 6 ?_; refine Rg.front 12 ?_; refine Rg.front 12 ?_; refine Rg.front 10 ?_; refine Rg.front 10 ?_; refine Rg.front 12 ?_; refine Rg.front 12 ?_)
  refine rg_callA rfl (runLaw_ok hX w x m 8 oa oc on' od os (.slice (some ⟨bb, 0, none⟩) ps.length bc) lv ev _ vs.length S va vb ca cb xs ys (B + 1) _ (hok.mono (Nat.le_succ B)) hhas (by omega) (by omega) hx hy) ?_
  rintro _ D ⟨ev', l1, l2, rfl, o1, o2, hE⟩
  refine ⟨.inl rfl, Rg.ent hE ?_⟩
  repeat (first|refine zG rfl ?_|refine zQ ?_)
  (refine Ex.front 5 ?_; refine Ex.front 12 ?_; refine Ex.front 6 ?_; refine Ex.front 12 ?_; refine Ex.front 12 ?_; refine Ex.front 6 ?_; refine Ex.front 6 ?_; refine Ex.front 8 ?_; refine Ex.front 12 ?_; refine Ex.front 12 ?_; refine Ex.front 10 ?_; refine Ex.front 12 ?_; refine Ex.front 12 ?_)
  exact ex_rete ret Try.func38 rfl (Ent.drop (Ent.drop (Ent.refl _))) ⟨rfl, fin ev' l1 l2 _ o1 o2⟩
end Go.Br

namespace Go.Br
open Go Go.Lx Go.Proofs
open Go.Lx renaming rg_move → zA, rg_int → zB, rg_nilCheck → zC, rg_fieldAddr0 → zD, rg_fieldAddr → zE, rg_load → zF, rg_assign → zG, rg_loadAgg → zH, rg_extract → zI, rg_not → zJ, rg_pick → zK, rg_off → zL, rg_offU → zM, rg_store → zN, rg_storeAgg → zO, rg_convInt → zP, rg_done → zQ, ex_seq → zR, rg_start_s → zS, rg_start_d → zT, ex_cond_true → zU, ex_cond_false → zV, rg_alloc → zW, rg_boxAgg → zX, rg_build → zY, rg_lenSl → zZ, rg_lenMap → yA, ex_skip → yB, ex_block → yC, ex_inBlock → yD, ex_exit → yE, rg_caseG → yZ
set_option maxRecDepth 100000

theorem stepAny_ok {X : Tgt} (hX : Co Try.prog X) (w : Nat) (kind oa oc on' od : Int) (os : Stp) (va vb : Option Addr) (ca cb : Nat) (xs ys : List Stp) (B : Nat) (Γ : List Ch) (hB : B + xs.length + ys.length < 4000000) (oo : OpOk ⟨kind, oa, oc, os, .slice va xs.length ca, .slice vb ys.length cb, on', od⟩)
    (hx : ∀ x ∈ xs, 0 ≤ x.n ∧ x.n < 18446744073709551616) (hy : ∀ x ∈ ys, 0 ≤ x.n ∧ x.n < 18446744073709551616) :
    CallsA Try.prog X 38 #[ptrV w, opV ⟨kind, oa, oc, os, .slice va xs.length ca, .slice vb ys.length cb, on', od⟩]
      (.pr (WdAt w B) :: .pr (StepsAt (.slice va xs.length ca) xs) :: .pr (StepsAt (.slice vb ys.length cb) ys) :: Γ) (fun v Δ => v = .bool true ∧ Ent Δ (.pr (WdAt w (B + 1 + xs.length + ys.length)) :: Γ)) := by
  by_cases hk : kind = 8
  · subst hk
    exact step8_ok hX w oa oc on' od os va vb ca cb xs ys B Γ hB oo.a hx hy
  · have c : CallsA Try.prog X 38 #[ptrV w, opV ⟨kind, oa, oc, os, .slice va xs.length ca, .slice vb ys.length cb, on', od⟩] _ _ := fun cs => step_ok w ⟨kind, oa, oc, os, .slice va xs.length ca, .slice vb ys.length cb, on', od⟩ B (.pr (StepsAt (.slice va xs.length ca) xs) :: .pr (StepsAt (.slice vb ys.length cb) ys) :: Γ) (by omega) oo hk X cs
    refine c.mono ?_
    rintro v Δ ⟨rfl, hE⟩
    exact ⟨rfl, Ent.trans hE (Ent.trans (wd_mono (by omega)) (Ent.cons (Ent.drop (Ent.drop (Ent.refl _)))))⟩

/-- The lists of a script's steps, to be read alone. -/
def ScRd (ops : List Opn) (rd : List (List Stp × List Stp)) : LH → Prop := fun h => ∀ (i : Nat) (o : Opn) (r : List Stp × List Stp), ops[i]? = some o → rd[i]? = some r → StepsAt o.L r.1 h ∧ StepsAt o.M r.2 h
theorem pers_scRd (ops : List Opn) (rd : List (List Stp × List Stp)) : Pers (ScRd ops rd) := fun h k i o r e1 e2 => ⟨pers_stepsAt _ _ h (k i o r e1 e2).1, pers_stepsAt _ _ h (k i o r e1 e2).2⟩
theorem scRd_get {ops : List Opn} {rd : List (List Stp × List Stp)} {i : Nat} {o : Opn} {r : List Stp × List Stp} {Γ : List Ch} (e1 : ops[i]? = some o) (e2 : rd[i]? = some r) :
    Ent (.pr (ScRd ops rd) :: Γ) (.pr (StepsAt o.L r.1) :: .pr (StepsAt o.M r.2) :: .pr (ScRd ops rd) :: Γ) :=
  Ent.trans (Ent.dup (pers_scRd ops rd)) (Ent.trans (Ent.cons (Ent.dup (pers_scRd ops rd))) (Ent.trans (Ent.head fun h' k => ⟨h', .refl h', (k i o r e1 e2).1⟩) (Ent.cons (Ent.head fun h' k => ⟨h', .refl h', (k i o r e1 e2).2⟩))))

structure RdOk (ops : List Opn) (rd : List (List Stp × List Stp)) : Prop where
  len : rd.length = ops.length
  L : ∀ (i : Nat) (o : Opn) (r : List Stp × List Stp), ops[i]? = some o → rd[i]? = some r → ∃ a c, o.L = .slice a r.1.length c
  M : ∀ (i : Nat) (o : Opn) (r : List Stp × List Stp), ops[i]? = some o → rd[i]? = some r → ∃ a c, o.M = .slice a r.2.length c
  x : ∀ r ∈ rd, (∀ x ∈ r.1, 0 ≤ x.n ∧ x.n < 18446744073709551616) ∧ (∀ x ∈ r.2, 0 ≤ x.n ∧ x.n < 18446744073709551616)

set_option maxHeartbeats 8000000 in
theorem upTo0_ok {X : Tgt} (hX : Co Try.prog X) (b off cap : Nat) (l : List Value) (T : TypeId) (fz : Nat × Nat) (ops : List Opn) (rd : List (List Stp × List Stp)) (Γ : List Ch) (sc : ScAt l off ops) (rk : RdOk ops rd) (hl : ops.length + opsN ops ≤ 65536) :
    CallsA Try.prog X 21 #[.slice (some ⟨b, off, none⟩) ops.length cap, .int .i64 0] (.pt b false (.cells ⟨l⟩ T fz) :: .pr (ScRd ops rd) :: Γ)
      (fun v _ => v = .int .i64 (-1)) := by
  refine calls_of_bodyA (args := [.slice (some ⟨b, off, none⟩) ops.length cap, .int .i64 0]) Try.func21 rfl Try.ntmps21 fun cs ret => ?_
  repeat (first|refine zA rfl ?_|refine zG rfl ?_|refine zQ ?_|refine zR ?_|refine zS ?_|refine zX rfl fun bl=>?_|refine zY rfl ?_|refine zZ rfl ?_|refine yC ?_)
  refine ex_loop ?_
  refine Ex.ent wd_new ?_
  refine ex_ind (ι := Nat × Nat) (fun i => ops.length + 1 - i.1) (fun i => [(12, .int .i64 i.1), (11, .int .i64 ops.length), (10, .slice (some ⟨b, off, none⟩) ops.length cap), (5, ptrV bl), (1, .int .i64 0)]) (fun i => .pr (WdAt bl i.2) :: .pt b false (.cells ⟨l⟩ T fz) :: .pr (ScRd ops rd) :: Γ)
    (fun i => i.1 ≤ ops.length ∧ i.2 + ops.length + opsN (ops.drop i.1) ≤ 65537 + i.1) (0, 1) ⟨Nat.zero_le _, by show 1 + ops.length + opsN ops ≤ 65537 + 0; omega⟩ ⟨rfl, rfl, rfl, rfl, rfl, trivial⟩ rfl (fun (i, B) hi IH => ?_)
  obtain ⟨hi, hB⟩ := hi
  dsimp only at hi hB ⊢
  repeat (first|refine zB rfl rfl rfl ?_|refine zQ ?_|refine zR ?_|refine zS ?_)
  refine ex_cond_split rfl (fun h1 => ?_) (fun h1 => ?_)
  · have hlt : i < ops.length := by have := of_decide_eq_true h1; omega
    repeat (first|refine zA rfl ?_|refine zR ?_|refine zS ?_|refine yB ?_|refine yC ?_)
    refine rg_indexSl rfl rfl ⟨by omega, by omega⟩ ?_
    rw [Int.toNat_natCast]
    haveI := sc.at_ i hlt
    have hoo := sc.ok _ (List.getElem_mem hlt)
    have ho : ops[i]? = some ops[i] := List.getElem?_eq_getElem hlt
    obtain ⟨r, hr⟩ : ∃ r, rd[i]? = some r := ⟨_, List.getElem?_eq_getElem (by rw [rk.len]; exact hlt)⟩
    obtain ⟨a1, c1, e1⟩ := rk.L i _ r ho hr
    obtain ⟨a2, c2, e2⟩ := rk.M i _ r ho hr
    obtain ⟨x1, x2⟩ := rk.x r (List.mem_of_getElem? hr)
    have hN : opsN (ops.drop i) = lenV (ops[i]).L + lenV (ops[i]).M + opsN (ops.drop (i + 1)) := by rw [List.drop_eq_getElem_cons hlt]; rfl
    have hget := scRd_get (Γ := Γ) ho hr
    generalize ops[i] = o at *
    obtain ⟨kind, oa, oc, os, oL, oM, on', od⟩ := o
    dsimp only at e1 e2
    subst e1; subst e2
    obtain ⟨xs, ys⟩ := r
    dsimp only [lenV] at hN hget x1 x2 ⊢
    refine rg_loadAgg rfl ?_
    repeat (first|refine zA rfl ?_|refine zG rfl ?_|refine zH rfl ?_|refine zO rfl rfl ?_|refine zQ ?_|refine zR ?_|refine zS ?_|refine zW fun bl=>?_)
    refine rg_callE rfl (playedAll_ok ⟨kind, oa, oc, os, .slice a1 xs.length c1, .slice a2 ys.length c2, on', od⟩ 0 _ (by decide)) ?_
    refine ⟨.inl rfl, ?_⟩
    repeat (first|refine zJ rfl ?_|refine zQ ?_|refine zR ?_|refine zV rfl ?_|refine yB ?_)
    (refine Ex.front 2 ?_; refine Ex.front 1 ?_; refine Ex.front 2 ?_; refine Ex.front 3 ?_)
    refine Ex.ent (scRd_get ho hr) ?_
    (refine Ex.front 2 ?_; refine Ex.front 5 ?_; refine Ex.front 5 ?_; refine Ex.front 4 ?_; refine Ex.front 4 ?_; refine Ex.front 5 ?_)
    repeat (first|refine zA rfl ?_|refine zH rfl ?_|refine zS ?_)
    refine rg_callA rfl (stepAny_ok hX _ kind oa oc on' od os a1 a2 c1 c2 xs ys B _ (by omega) hoo x1 x2) ?_
    rintro _ D ⟨rfl, hE⟩
    refine ⟨.inl rfl, Rg.ent hE ?_⟩
    repeat (first|refine zA rfl ?_|refine zB rfl rfl rfl ?_|refine zJ rfl ?_|refine zK rfl rfl ?_|refine zL rfl rfl rfl rfl (by decide) trivial rfl ?_|refine zM rfl rfl rfl rfl (by decide) trivial rfl ?_|refine zQ ?_|refine zR ?_|refine zS ?_|refine zV rfl ?_|refine yB ?_)
    refine rg_callE rfl (looks_ok _ _ _ (by omega)) ?_
    refine ⟨.inl rfl, ?_⟩
    repeat (first|refine zA rfl ?_|refine zB rfl rfl rfl ?_|refine zJ rfl ?_|refine zK rfl rfl ?_|refine zQ ?_|refine zS ?_|refine zV rfl ?_|refine yB ?_|refine yD ?_)
    refine ex_inLoop ?_
    rw [rwrap (x := (i : Int) + 1) (by omega)]
    (refine Ex.front 0 ?_; refine Ex.front 1 ?_)
    refine Ex.drop ?_
    exact Ex.sup (IH (i + 1, B + 1 + xs.length + ys.length) ⟨hlt, by dsimp only; omega⟩ (by dsimp only; omega)) ⟨rfl, rfl, rfl, rfl, rfl, trivial⟩
  · have hge : i = ops.length := by have := of_decide_eq_false h1; omega
    repeat (first|refine zG rfl ?_|refine zQ ?_|refine zR ?_|refine zS ?_|refine yE rfl ?_)
    exact ex_rete ret Try.func21 rfl (Ent.refl _) rfl

set_option maxHeartbeats 8000000 in
theorem upTo8_ok {X : Tgt} (hX : Co Try.prog X) (b off cap : Nat) (l : List Value) (T : TypeId) (fz : Nat × Nat) (ops : List Opn) (rd : List (List Stp × List Stp)) (Γ : List Ch) (sc : ScAt l off ops) (rk : RdOk ops rd) (hl : ops.length + opsN ops ≤ 65536) :
    CallsA Try.prog X 21 #[.slice (some ⟨b, off, none⟩) ops.length cap, .int .i64 8] (.pt b false (.cells ⟨l⟩ T fz) :: .pr (ScRd ops rd) :: Γ)
      (fun v _ => v = .int .i64 (-1)) := by
  refine calls_of_bodyA (args := [.slice (some ⟨b, off, none⟩) ops.length cap, .int .i64 8]) Try.func21 rfl Try.ntmps21 fun cs ret => ?_
  repeat (first|refine zA rfl ?_|refine zG rfl ?_|refine zQ ?_|refine zR ?_|refine zS ?_|refine zX rfl fun bl=>?_|refine zY rfl ?_|refine zZ rfl ?_|refine yC ?_)
  refine ex_loop ?_
  refine Ex.ent wd_new ?_
  refine ex_ind (ι := Nat × Nat) (fun i => ops.length + 1 - i.1) (fun i => [(12, .int .i64 i.1), (11, .int .i64 ops.length), (10, .slice (some ⟨b, off, none⟩) ops.length cap), (5, ptrV bl), (1, .int .i64 8)]) (fun i => .pr (WdAt bl i.2) :: .pt b false (.cells ⟨l⟩ T fz) :: .pr (ScRd ops rd) :: Γ)
    (fun i => i.1 ≤ ops.length ∧ i.2 + ops.length + opsN (ops.drop i.1) ≤ 65537 + i.1) (0, 1) ⟨Nat.zero_le _, by show 1 + ops.length + opsN ops ≤ 65537 + 0; omega⟩ ⟨rfl, rfl, rfl, rfl, rfl, trivial⟩ rfl (fun (i, B) hi IH => ?_)
  obtain ⟨hi, hB⟩ := hi
  dsimp only at hi hB ⊢
  repeat (first|refine zB rfl rfl rfl ?_|refine zQ ?_|refine zR ?_|refine zS ?_)
  refine ex_cond_split rfl (fun h1 => ?_) (fun h1 => ?_)
  · have hlt : i < ops.length := by have := of_decide_eq_true h1; omega
    repeat (first|refine zA rfl ?_|refine zR ?_|refine zS ?_|refine yB ?_|refine yC ?_)
    refine rg_indexSl rfl rfl ⟨by omega, by omega⟩ ?_
    rw [Int.toNat_natCast]
    haveI := sc.at_ i hlt
    have hoo := sc.ok _ (List.getElem_mem hlt)
    have ho : ops[i]? = some ops[i] := List.getElem?_eq_getElem hlt
    obtain ⟨r, hr⟩ : ∃ r, rd[i]? = some r := ⟨_, List.getElem?_eq_getElem (by rw [rk.len]; exact hlt)⟩
    obtain ⟨a1, c1, e1⟩ := rk.L i _ r ho hr
    obtain ⟨a2, c2, e2⟩ := rk.M i _ r ho hr
    obtain ⟨x1, x2⟩ := rk.x r (List.mem_of_getElem? hr)
    have hN : opsN (ops.drop i) = lenV (ops[i]).L + lenV (ops[i]).M + opsN (ops.drop (i + 1)) := by rw [List.drop_eq_getElem_cons hlt]; rfl
    have hget := scRd_get (Γ := Γ) ho hr
    generalize ops[i] = o at *
    obtain ⟨kind, oa, oc, os, oL, oM, on', od⟩ := o
    dsimp only at e1 e2
    subst e1; subst e2
    obtain ⟨xs, ys⟩ := r
    dsimp only [lenV] at hN hget x1 x2 ⊢
    refine rg_loadAgg rfl ?_
    repeat (first|refine zA rfl ?_|refine zG rfl ?_|refine zH rfl ?_|refine zO rfl rfl ?_|refine zQ ?_|refine zR ?_|refine zS ?_|refine zW fun bl=>?_)
    refine rg_callE rfl (playedAll_ok ⟨kind, oa, oc, os, .slice a1 xs.length c1, .slice a2 ys.length c2, on', od⟩ 8 _ (by decide)) ?_
    refine ⟨.inl rfl, ?_⟩
    repeat (first|refine zJ rfl ?_|refine zQ ?_|refine zR ?_|refine zV rfl ?_|refine yB ?_)
    (refine Ex.front 2 ?_; refine Ex.front 1 ?_; refine Ex.front 2 ?_; refine Ex.front 3 ?_)
    refine Ex.ent (scRd_get ho hr) ?_
    (refine Ex.front 2 ?_; refine Ex.front 5 ?_; refine Ex.front 5 ?_; refine Ex.front 4 ?_; refine Ex.front 4 ?_; refine Ex.front 5 ?_)
    repeat (first|refine zA rfl ?_|refine zH rfl ?_|refine zS ?_)
    refine rg_callA rfl (stepAny_ok hX _ kind oa oc on' od os a1 a2 c1 c2 xs ys B _ (by omega) hoo x1 x2) ?_
    rintro _ D ⟨rfl, hE⟩
    refine ⟨.inl rfl, Rg.ent hE ?_⟩
    repeat (first|refine zA rfl ?_|refine zB rfl rfl rfl ?_|refine zJ rfl ?_|refine zK rfl rfl ?_|refine zL rfl rfl rfl rfl (by decide) trivial rfl ?_|refine zM rfl rfl rfl rfl (by decide) trivial rfl ?_|refine zQ ?_|refine zR ?_|refine zS ?_|refine zV rfl ?_|refine yB ?_)
    refine rg_callE rfl (looks_ok _ _ _ (by omega)) ?_
    refine ⟨.inl rfl, ?_⟩
    repeat (first|refine zA rfl ?_|refine zB rfl rfl rfl ?_|refine zJ rfl ?_|refine zK rfl rfl ?_|refine zQ ?_|refine zS ?_|refine zV rfl ?_|refine yB ?_|refine yD ?_)
    refine ex_inLoop ?_
    rw [rwrap (x := (i : Int) + 1) (by omega)]
    (refine Ex.front 0 ?_; refine Ex.front 1 ?_)
    refine Ex.drop ?_
    exact Ex.sup (IH (i + 1, B + 1 + xs.length + ys.length) ⟨hlt, by dsimp only; omega⟩ (by dsimp only; omega)) ⟨rfl, rfl, rfl, rfl, rfl, trivial⟩
  · have hge : i = ops.length := by have := of_decide_eq_false h1; omega
    repeat (first|refine zG rfl ?_|refine zQ ?_|refine zR ?_|refine zS ?_|refine yE rfl ?_)
    exact ex_rete ret Try.func21 rfl (Ent.refl _) rfl

end Go.Br

namespace Go.Br
open Go Go.Lx Go.Proofs Go.ChangeShapes Go.WideShapes Go.Deep
set_option maxRecDepth 100000

/-- All the heap, to be read alone. -/
def roAll (W : World) : LH := fun b => (W.heap[b]?).map fun o => (false, o)
theorem roAll_sub (W : World) : (roAll W).Sub W := fun b p o e => by
  unfold roAll at e
  cases h : W.heap[b]? with
  | none => rw [h] at e; cases e
  | some x => rw [h] at e; cases e; rfl
theorem roAll_ro (W : World) : ∀ b p o, roAll W b = some (p, o) → p = false := fun b p o e => by
  unfold roAll at e
  cases h : W.heap[b]? with
  | none => rw [h] at e; cases e
  | some x => rw [h] at e; cases e; rfl
theorem roAll_join (W : World) : Join (roAll W) (roAll W) (roAll W) := fun b => by
  unfold roAll
  cases h : W.heap[b]? with
  | none => exact .inl ⟨rfl, rfl⟩
  | some x => exact .inr (.inr ⟨x, rfl, rfl, rfl⟩)

/-- A list of steps in memory. -/
def StepsIn (W : World) (v : Value) (xs : List Stp) : Prop := (∀ x ∈ xs, 0 ≤ x.n ∧ x.n < 18446744073709551616) ∧ StepsAt v xs (roAll W)

structure RdIn (W : World) (ops : List Opn) (rd : List (List Stp × List Stp)) : Prop where
  len : rd.length = ops.length
  at_ : ∀ (i : Nat) (o : Opn) (r : List Stp × List Stp), ops[i]? = some o → rd[i]? = some r → StepsIn W o.L r.1 ∧ StepsIn W o.M r.2

theorem RdIn.ok {W : World} {ops : List Opn} {rd : List (List Stp × List Stp)} (h : RdIn W ops rd) : RdOk ops rd := by
  refine ⟨h.len, fun i o r e1 e2 => ?_, fun i o r e1 e2 => ?_, fun r hr => ?_⟩
  · obtain ⟨_, ⟨a, c⟩, e, _⟩ := (h.at_ i o r e1 e2).1; exact ⟨a, c, e⟩
  · obtain ⟨_, ⟨a, c⟩, e, _⟩ := (h.at_ i o r e1 e2).2; exact ⟨a, c, e⟩
  · obtain ⟨i, hi, rfl⟩ := List.getElem_of_mem hr
    obtain ⟨o, ho⟩ : ∃ o, ops[i]? = some o := ⟨_, List.getElem?_eq_getElem (by rw [← h.len]; exact hi)⟩
    have := h.at_ i o _ ho (List.getElem?_eq_getElem hi)
    exact ⟨this.1.1, this.2.1⟩
theorem RdIn.rd {W : World} {ops : List Opn} {rd : List (List Stp × List Stp)} (h : RdIn W ops rd) : ScRd ops rd (roAll W) := fun i o r e1 e2 => ⟨(h.at_ i o r e1 e2).1.2, (h.at_ i o r e1 e2).2.2⟩

section
variable {H : Type} {enc : TypeId × Value → H} {W : World} {base : Nat} {sp : Nat → Bool} {held : Bool}

theorem dec_stepsR {n : Nat} {v : Value} {y : DataW H × List MemPlace} (h : DataW.trod enc Try.prog W base sp held n 75 [v] = some y) : ∃ xs : List Stp, StepsIn W v xs := by
  rcases open_slice Try.underlying75 h with ⟨e, _⟩ | ⟨a, len, cap, m, k, D, Pl, e, _, _, _, hm, _, hi⟩
  · cases e; exact ⟨[], by simp, (none, 0), rfl, .inl rfl⟩
  cases e
  rcases Nat.eq_zero_or_pos len with h0 | hpos
  · subst h0; exact ⟨[], by simp, (some a, cap), rfl, .inl rfl⟩
  rw [c_step] at hi
  have hlm : len ≤ m := by rw [hm]; split <;> omega
  obtain ⟨c0, hc0, _⟩ := hi 0 (by omega)
  obtain ⟨_, hl0, hat0⟩ := World.cells?_some hc0
  have h00 := hat0 0 (by decide)
  rw [Nat.zero_mul, show (a.add 0).add 0 = a by simp [Addr.add]] at h00
  obtain ⟨v0, hv0⟩ := get_lt (l := c0) (i := 0) (by omega)
  rw [hv0] at h00
  obtain ⟨l, T, fz, hb, hs, _⟩ := cell_heap h00
  obtain ⟨b, off, spot⟩ := a
  dsimp only at hs hb
  subst hs
  have key : ∀ i, i < len → ∃ x : Stp, SliceL l (off + i * 9) 9 (stL x) ∧ 0 ≤ x.n ∧ x.n < 18446744073709551616 := by
    intro i hil
    obtain ⟨cs, hcs, htr⟩ := hi i (by omega)
    obtain ⟨x, rfl, hx⟩ := dec_step htr
    exact ⟨x, row_cell hb (by decide) hcs, hx⟩
  obtain ⟨xs, hol, hq⟩ := list_of len key
  subst hol
  refine ⟨xs, fun x hx => ?_, (some ⟨b, off, none⟩, cap), rfl, .inr ⟨b, off, l, T, fz, rfl, by simp [roAll, hb], fun i x hx => ?_⟩⟩
  · obtain ⟨i, hi', rfl⟩ := List.getElem_of_mem hx
    exact (hq i hi').2
  · obtain ⟨hlt, rfl⟩ := List.getElem?_eq_some_iff.1 hx
    exact (hq i hlt).1

/-- A script: its memory. -/
theorem open_scriptR {n : Nat} {v : Value} {y : DataW H × List MemPlace} (h : DataW.trod enc Try.prog W base sp held n 33 [v] = some y) (hsz : ∀ k ∈ DataW.weights Try.prog 33 y.1, k ≤ reachBytes) :
    (∃ a cap, v = .slice a 0 cap) ∨ ∃ b off cap l T fz ops rd, v = .slice (some ⟨b, off, none⟩) ops.length cap ∧ W.heap[b]? = some (.cells ⟨l⟩ T fz) ∧ ScAt l off ops ∧ ops.length < 70368744177664 ∧ RdIn W ops rd := by
  rcases open_slice Try.underlying33 h with ⟨e, _⟩ | ⟨a, len, cap, m, k, D, Pl, e, _, _, _, hm, hx, hi⟩
  · cases e; exact .inl ⟨none, 0, rfl⟩
  cases e
  rcases Nat.eq_zero_or_pos len with h0 | hpos
  · subst h0; exact .inl ⟨some a, cap, rfl⟩
  right
  rw [c_op] at hi
  have hlm : len ≤ m := by rw [hm]; split <;> omega
  have hsz2 : (len + (m - len)) * 160 ≤ 140737488351232 := by
    have := hsz ((len + (m - len)) * Try.prog.bytesOf 83) (by rw [hx]; simp [DataW.weights, Try.underlying33])
    rwa [b_op, reach_eq] at this
  obtain ⟨c0, hc0, _⟩ := hi 0 (by omega)
  obtain ⟨_, hl0, hat0⟩ := World.cells?_some hc0
  have h00 := hat0 0 (by decide)
  rw [Nat.zero_mul, show (a.add 0).add 0 = a by simp [Addr.add]] at h00
  obtain ⟨v0, hv0⟩ := get_lt (l := c0) (i := 0) (by omega)
  rw [hv0] at h00
  obtain ⟨l, T, fz, hb, hs, _⟩ := cell_heap h00
  obtain ⟨b, off, spot⟩ := a
  dsimp only at hs hb
  subst hs
  have key : ∀ i, i < len → ∃ o : Opn × List Stp × List Stp, (SliceL l (off + i * 16) 16 (opC o.1) ∧ OpOk o.1 ∧ (∃ a n c, o.1.L = .slice a n c ∧ n < 70368744177664) ∧ (∃ a n c, o.1.M = .slice a n c ∧ n < 70368744177664)) ∧ StepsIn W o.1.L o.2.1 ∧ StepsIn W o.1.M o.2.2 := by
    intro i hil
    obtain ⟨cs, hcs, htr⟩ := hi i (by omega)
    obtain ⟨o, m', yL, yM, ds, rfl, hok, e1, e2, e3, hL, hM⟩ := dec_op htr
    have hw : ∀ (d : DataW H) (j : Nat), (j = 4 ∨ j = 5) → ds[j]? = some d → ∀ k ∈ DataW.weights Try.prog 75 d, k ≤ reachBytes := by
      intro d j hj hd k hk
      refine hsz k ?_
      rw [hx]
      simp only [DataW.weights, Try.underlying33, List.mem_cons, List.mem_append]
      refine .inr (.inl (weightsAll_mem (d := D i) (List.mem_map.2 ⟨i, List.mem_range.2 hil, rfl⟩) k ?_))
      have e1' : D i = .agg ds := e1
      rw [e1']
      simp only [DataW.weights, Try.underlying83]
      rcases hj with rfl | rfl
      · exact DataW.weights_mem_each (j := 4) rfl hd k hk
      · exact DataW.weights_mem_each (j := 5) rfl hd k hk
    obtain ⟨xs, hxs⟩ := dec_stepsR hL
    obtain ⟨ys, hys⟩ := dec_stepsR hM
    exact ⟨(o, xs, ys), ⟨row_cell hb (by decide) hcs, hok, dec_steps hL (hw _ 4 (.inl rfl) e2), dec_steps hM (hw _ 5 (.inr rfl) e3)⟩, hxs, hys⟩
  obtain ⟨zs, hol, hq⟩ := list_of len key
  subst hol
  refine ⟨b, off, cap, l, T, fz, zs.map (·.1), zs.map (·.2), by rw [List.length_map], hb, ⟨fun i h => ?_, fun o ho => ?_, fun o ho => ?_, fun o ho => ?_⟩, by rw [List.length_map]; omega, ⟨by rw [List.length_map, List.length_map], fun i o r h1 h2 => ?_⟩⟩
  · rw [List.length_map] at h
    rw [List.getElem_map]; exact (hq i h).1.1
  · obtain ⟨z, hz, rfl⟩ := List.mem_map.1 ho
    obtain ⟨i, hi', rfl⟩ := List.getElem_of_mem hz; exact (hq i hi').1.2.2.1
  · obtain ⟨z, hz, rfl⟩ := List.mem_map.1 ho
    obtain ⟨i, hi', rfl⟩ := List.getElem_of_mem hz; exact (hq i hi').1.2.2.2
  · obtain ⟨z, hz, rfl⟩ := List.mem_map.1 ho
    obtain ⟨i, hi', rfl⟩ := List.getElem_of_mem hz; exact (hq i hi').1.2.1
  · rw [List.getElem?_map] at h1 h2
    cases hz : zs[i]? with
    | none => rw [hz] at h1; cases h1
    | some z =>
      rw [hz] at h1 h2
      cases h1; cases h2
      obtain ⟨hlt, rfl⟩ := List.getElem?_eq_some_iff.1 hz
      exact (hq i hlt).2

end
end Go.Br
