/-
  Lemmas towards the law, proved without conditions of their own: THE LAW: a step of a script.
-/
import Derived.Test.YtedaknlacigbhaaPk24
namespace Go.Br
open Go Go.Lx Go.Proofs
open Go.Lx renaming rg_move → zA, rg_int → zB, rg_nilCheck → zC, rg_fieldAddr0 → zD, rg_fieldAddr → zE, rg_load → zF, rg_assign → zG, rg_loadAgg → zH, rg_extract → zI, rg_not → zJ, rg_pick → zK, rg_off → zL, rg_offU → zM, rg_store → zN, rg_storeAgg → zO, rg_convInt → zP, rg_done → zQ, ex_seq → zR, rg_start_s → zS, rg_start_d → zT, ex_cond_true → zU, ex_cond_false → zV, rg_alloc → zW, rg_boxAgg → zX, rg_build → zY, rg_lenSl → zZ, rg_lenMap → yA, ex_skip → yB, ex_block → yC, ex_inBlock → yD, ex_exit → yE, rg_caseG → yZ
set_option maxRecDepth 100000

structure OpOk (o : Opn) : Prop where
  a : -9223372036854775808 ≤ o.a ∧ o.a < 9223372036854775808
  s : 0 ≤ o.s.n ∧ o.s.n < 18446744073709551616
  n : 0 ≤ o.n ∧ o.n < 18446744073709551616

theorem mod_fold1 {m : Nat} {S : Bg} {Γ : List Ch} (c0 c1 : Nat) (y : RLay) (ok : RLOk S.s1 y) : EntR (.pr (ModAt m S) :: Γ) (mdC m (ptrV c0) (ptrV c1) S.tk :: .pr (RefAt c0 S.s0) :: refL c1 S.s1 y Γ) :=
  Ent.trans (Ent.cons (Ent.cons (ref_fold y ok))) (EntR.e (mod_fold c0 c1 rfl))
theorem mod_fold0 {m : Nat} {S : Bg} {Γ : List Ch} (c0 c1 : Nat) (y : RLay) (ok : RLOk S.s0 y) : EntR (.pr (ModAt m S) :: Γ) (mdC m (ptrV c0) (ptrV c1) S.tk :: .pr (RefAt c1 S.s1) :: refL c0 S.s0 y Γ) :=
  Ent.trans (Ent.cons (Ent.cons (ref_fold y ok))) (Ent.trans (Ent.cons (front_ent 1)) (EntR.e (mod_fold c0 c1 rfl)))

theorem bal_zero {S : Bg} (h : BgHas S) (c u co : Int) (hn : ¬ (isUser u = true ∧ (co = 0 ∨ co = 1))) : bgBal S c u co = 0 := by
  unfold bgBal
  split
  · exact h.1 u co hn
  split
  · exact h.2 u co hn
  · rfl

set_option maxHeartbeats 16000000 in
theorem step_ok (w : Nat) (o : Opn) (B : Nat) (Γ : List Ch) (hB : B < 10000000) (oo : OpOk o) (hk : o.kind ≠ 8) :
    CallsX Try.prog 38 #[ptrV w, opV o] (.pr (WdAt w B) :: Γ) (fun v Δ => v = .bool true ∧ Ent Δ (.pr (WdAt w (B + 1)) :: Γ)) := by
  obtain ⟨kind, oa, oc, os, oL, oM, on', od⟩ := o
  obtain ⟨ha, hs, hn⟩ := oo
  dsimp only [opV, opC] at hk ha hs hn ⊢
  refine CallsX.open_ wd_open fun z ok => ?_
  obtain ⟨ps, us, vs, bv, lv, ev⟩ := z
  dsimp only [wdL]
  have hnp := ok.np
  have hnu := ok.nu
  dsimp only at hnp hnu
  refine CallsX.ent (front_ent 1) (CallsX.open_ (slp_shapeO (p := true)) fun q hq => ?_)
  obtain ⟨ba, bc⟩ := q
  dsimp only at hq
  subst hq
  refine calls_of_body (args := [ptrV w, .agg ⟨[.int .i64 kind, .int .i64 oa, .int .i64 oc, .int .i64 os.kind, .int .u64 os.n, .int .u64 os.p.seq, .int .i64 os.p.frm, .int .i64 os.p.to, .int .i64 os.p.coin, .int .u64 os.p.amount, .int .u64 os.p.height, .int .u64 os.p.time, oL, oM, .int .u64 on', .int .i64 od]⟩]) Try.func38 rfl Try.ntmps38 fun X cs ret => ?_
  refine ex_seq (rg_start_s (rg_boxAgg rfl fun bo => ?_))
  (refine Rg.front 3 ?_; refine Rg.front 2 ?_; refine Rg.front 3 ?_; refine Rg.front 3 ?_)
  repeat (first|refine zB rfl rfl rfl ?_|refine zD rfl ?_|refine zF rfl ?_|refine zG rfl ?_|refine zQ ?_|refine zR ?_|refine zS ?_)
  refine ex_cond_split rfl (fun k1 => ?_) (fun k1 => ?_)
  · by_cases hco : on' ≤ 1152921504606846976
    · repeat (first|refine zE rfl ?_|refine zF rfl ?_|refine zR ?_|refine zS ?_)
      refine rg_call rfl (New_bg on' _ ⟨hn.1, hco⟩) ?_
      rintro _ D ⟨x, rfl, hE⟩
      refine ⟨.inl rfl, Rg.ent hE ?_⟩
      repeat (first|refine zA rfl ?_|refine zE rfl ?_|refine zF rfl ?_|refine zG rfl ?_|refine zI rfl rfl ?_|refine zQ ?_|refine zR ?_|refine zS ?_)
      refine rg_call rfl (rnew_ok on' _ ⟨hn.1, hco⟩) ?_
      rintro _ D ⟨m, rfl, hE⟩
      refine ⟨.inl rfl, Rg.ent hE ?_⟩
      repeat (first|refine zA rfl ?_|refine zG rfl ?_|refine zI rfl rfl ?_|refine zJ rfl ?_|refine zQ ?_|refine zR ?_|refine zS ?_|refine zV rfl ?_|refine yB ?_)
      refine rg_eqPtrNil rfl rfl ?_
      repeat (first|refine zA rfl ?_|refine zB rfl rfl rfl ?_|refine zC rfl ?_|refine zD rfl ?_|refine zF rfl ?_|refine zK rfl rfl ?_|refine zQ ?_|refine zR ?_|refine zS ?_|refine zV rfl ?_|refine zY rfl ?_|refine yB ?_)
      refine rg_buildSlice (vs := [prV x m]) rfl rfl rfl rfl (fun b2 => ?_)
      (refine Rg.front 5 ?_)
      refine rg_append (xs := ps.flatMap prC) (ys := [ptrV x, ptrV m]) (len := ps.length) (c := 1) rfl rfl (.inr ⟨b2, 0, 1, true, [ptrV x, ptrV m], 124, (0, 0), rfl, Find.mem, inferInstance⟩) (fun v hv => by simp only [List.mem_cons, List.not_mem_nil, or_false] at hv; rcases hv with rfl | rfl <;> rfl) (by omega) (by omega) (fun s' => .inr (by (repeat' first | exact trivial | refine ⟨.inr ⟨_, _, _, _, Find.mem, rfl⟩, ?_⟩ | refine ⟨.inr ⟨_, _, _, _, Find.mem, inferInstance⟩, ?_⟩ | refine ⟨.inr ⟨_, Find.mem⟩, ?_⟩ | refine ⟨.inl (by decide +kernel), ?_⟩))) (fun s' hone => ?_)
      repeat (first|refine zC rfl ?_|refine zD rfl ?_)
      refine rg_store rfl rfl ?_ hone
      repeat (first|refine zG rfl ?_|refine zQ ?_|refine zR ?_|refine zS ?_)
      (refine Ex.front 10 ?_; refine Ex.front 10 ?_; refine Ex.front 10 ?_; refine Ex.front 5 ?_; refine Ex.front 6 ?_; refine Ex.front 10 ?_; refine Ex.front 10 ?_; refine Ex.front 7 ?_; refine Ex.front 10 ?_; refine Ex.front 10 ?_; refine Ex.front 10 ?_)
      refine ex_rete ret Try.func38 rfl (Ent.drop (Ent.drop (Ent.refl _))) ⟨rfl, ?_⟩
      refine Ent.trans (Ent.cons (Ent.cons (Ent.cons (Ent.cons prs_snoc)))) ?_
      have e1 : (ps ++ [(⟨x, m, bgNew on'⟩ : Pr)]).flatMap prC = ps.flatMap prC ++ [ptrV x, ptrV m] := by simp [List.flatMap_append]
      have e2 : (ps ++ [(⟨x, m, bgNew on'⟩ : Pr)]).length = ps.length + 1 := by simp
      rw [← e1, ← e2]
      refine EntR.e (wd_fold ⟨ps ++ [⟨x, m, bgNew on'⟩], us, vs, s', lv, ev⟩ ⟨?_, ?_, ?_, ?_, ?_, ok.ul, ok.vl⟩)
      · intro p hp
        rcases List.mem_append.1 hp with h | h
        · exact (ok.ok p h).mono (Nat.le_succ B)
        · rw [List.mem_singleton.1 h]; exact (newOk on' ⟨hn.1, hco⟩).mono (by omega)
      · intro p hp
        rcases List.mem_append.1 hp with h | h
        · exact ok.has p h
        · rw [List.mem_singleton.1 h]; exact bgNew_has on'
      · rw [e2]; omega
      · exact Nat.le_succ_of_le hnu
      · exact Nat.le_trans ok.nv (by omega)
    · repeat (first|refine zE rfl ?_|refine zF rfl ?_|refine zR ?_|refine zS ?_)
      refine rg_call rfl (bNewX_ok on' _ (by omega)) ?_
      rintro _ _ ⟨rfl, rfl⟩
      refine ⟨.inl rfl, ?_⟩
      repeat (first|refine zA rfl ?_|refine zE rfl ?_|refine zF rfl ?_|refine zG rfl ?_|refine zI rfl rfl ?_|refine zQ ?_|refine zR ?_|refine zS ?_)
      refine rg_call rfl (rnewX_ok on' _ (by omega)) ?_
      rintro _ _ ⟨rfl, rfl⟩
      refine ⟨.inl rfl, ?_⟩
      repeat (first|refine zA rfl ?_|refine zG rfl ?_|refine zI rfl rfl ?_|refine zJ rfl ?_|refine zQ ?_|refine zR ?_|refine zS ?_|refine zU rfl ?_)
      refine rg_eqPtrNil rfl rfl ?_
      repeat (first|refine zA rfl ?_|refine zB rfl rfl rfl ?_|refine zG rfl ?_|refine zK rfl rfl ?_|refine zQ ?_)
      exact ex_rete ret Try.func38 rfl (Ent.drop (Ent.refl _)) ⟨rfl, EntR.e (wd_fold ⟨ps, us, vs, .slice ba ps.length bc, lv, ev⟩ (ok.mono (Nat.le_succ B)))⟩
  have k1 := of_decide_eq_false k1
  repeat (first|refine zA rfl ?_|refine zB rfl rfl rfl ?_|refine zC rfl ?_|refine zD rfl ?_|refine zF rfl ?_|refine zQ ?_|refine zR ?_|refine zS ?_|refine zZ rfl ?_|refine yB ?_)
  refine ex_cond_split rfl (fun k0 => ?_) (fun k0 => ?_)
  · repeat (first|refine zG rfl ?_|refine zQ ?_|refine zR ?_|refine zS ?_)
    exact ex_rete ret Try.func38 rfl (Ent.drop (Ent.refl _)) ⟨rfl, EntR.e (wd_fold ⟨ps, us, vs, .slice ba ps.length bc, lv, ev⟩ (ok.mono (Nat.le_succ B)))⟩
  have k0 := of_decide_eq_false k0
  have hpos : 0 < ps.length := by omega
  repeat (first|refine zR ?_|refine yB ?_)
  (refine Ex.front 2 ?_)
  refine ex_slp (p := true) (fun _ _ h => absurd h (by omega)) (fun bb bcap bslack hq hz => ?_)
  simp only [Value.slice.injEq, true_and] at hq
  obtain ⟨rfl, rfl⟩ := hq
  (refine rg_start_p [0, 1, 2, 3, 4, 5, 6, 7, 8, 9, 10, 11, 12, 13, 14, 15] (by decide +kernel) (by decide +kernel) (by simp only [permL, List.getElem?_cons_succ, List.getElem?_cons_zero]; rfl) ?_)
  repeat (first|refine zA rfl ?_|refine zC rfl ?_|refine zD rfl ?_|refine zE rfl ?_|refine zF rfl ?_|refine zZ rfl ?_)
  refine rg_callQ rfl (fun Δ => pick_ok oa ps.length Δ ha hpos) ?_
  have hi : pickI oa ps.length < ps.length := Nat.mod_lt _ hpos
  generalize pickI oa ps.length = i at hi ⊢
  refine rg_indexSl rfl rfl ⟨by omega, by omega⟩ ?_
  rw [Int.toNat_natCast, Nat.zero_add (i * 2)]
  haveI := sliceL_flatK prC_len ps i hi bslack
  refine rg_loadAgg rfl ?_
  repeat (first|refine zO rfl rfl ?_|refine zQ ?_|refine zR ?_|refine zW fun bl=>?_)
  (refine Ex.front 1 ?_)
  refine Ex.ent (EntR.e (slp_fold bb bc bslack hz)) ?_
  (refine Ex.front 8 ?_; refine Ex.front 8 ?_; refine Ex.front 7 ?_; refine Ex.front 7 ?_; refine Ex.front 4 ?_; refine Ex.front 7 ?_; refine Ex.front 6 ?_; refine Ex.front 7 ?_; refine Ex.front 8 ?_)
  refine Ex.ent (prs_get hi) ?_
  have hok := ok.ok ps[i] (List.getElem_mem hi)
  have hhas := ok.has ps[i] (List.getElem_mem hi)
  have fin : ∀ S', BgOk (B + 1) S' → BgHas S' → Ent (wdC w (.slice (some ⟨bb, 0, none⟩) ps.length bc) lv ev false :: .pr (SlV 124 2 (.slice (some ⟨bb, 0, none⟩) ps.length bc) (ps.flatMap prC) ps.length) :: .pr (SlV 53 1 lv (us.map (·.1)) us.length) :: .pr (SlV 23 1 ev (vs.map (·.1)) vs.length) ::
      .pr (BgAt ps[i].x S') :: .pr (ModAt ps[i].m S') :: .pr (Star (prChs (ps.eraseIdx i))) :: .pr (Star (markChs 36 markV 0 us)) :: .pr (Star (markChs 22 errV 0 vs)) :: Γ) (.pr (WdAt w (B + 1)) :: Γ) := fun S' o1 o2 => by
    refine Ent.trans (Ent.cons (Ent.cons (Ent.cons (Ent.cons (prs_put hi))))) ?_
    have hl : (ps.set i { ps[i] with S := S' }).length = ps.length := List.length_set
    have := wd_fold (w := w) (B := B + 1) (Γ := Γ) ⟨ps.set i { ps[i] with S := S' }, us, vs, .slice (some ⟨bb, 0, none⟩) ps.length bc, lv, ev⟩ ⟨?_, ?_, by rw [hl]; omega, Nat.le_succ_of_le hnu, Nat.le_trans ok.nv (by omega), ok.ul, ok.vl⟩
    · dsimp only [wdL] at this
      rw [prs_set_fl hi, hl] at this
      exact EntR.e this
    · intro p hp
      rcases List.mem_or_eq_of_mem_set hp with h | h
      · exact (ok.ok p h).mono (Nat.le_succ B)
      · rw [h]; exact o1
    · intro p hp
      rcases List.mem_or_eq_of_mem_set hp with h | h
      · exact ok.has p h
      · rw [h]; exact o2
  have finL : ∀ (lv' l' : Value) (k : Nat), k < 1000000000 → Ent (wdC w (.slice (some ⟨bb, 0, none⟩) ps.length bc) lv' ev false :: .pr (SlV 53 1 lv' (us.map (·.1) ++ [l']) (us.length + 1)) :: .pr (SlV 36 1 l' (List.replicate k (markV us.length)) k) :: .pr (BgAt ps[i].x ps[i].S) :: .pr (ModAt ps[i].m ps[i].S) ::
      .pr (SlV 124 2 (.slice (some ⟨bb, 0, none⟩) ps.length bc) (ps.flatMap prC) ps.length) :: .pr (SlV 23 1 ev (vs.map (·.1)) vs.length) :: .pr (Star (prChs (ps.eraseIdx i))) :: .pr (Star (markChs 36 markV 0 us)) :: .pr (Star (markChs 22 errV 0 vs)) :: Γ) (.pr (WdAt w (B + 1)) :: Γ) := fun lv' l' k hk' => by
    (refine Ent.trans (front_ent 9) ?_; refine Ent.trans (front_ent 8) ?_; refine Ent.trans (front_ent 6) ?_; refine Ent.trans (front_ent 6) ?_; refine Ent.trans (front_ent 8) ?_; refine Ent.trans (front_ent 6) ?_; refine Ent.trans (front_ent 8) ?_; refine Ent.trans (front_ent 7) ?_; refine Ent.trans (front_ent 9) ?_; refine Ent.trans (front_ent 9) ?_)
    refine Ent.trans marks_snoc ?_
    (refine Ent.trans (front_ent 8) ?_; refine Ent.trans (front_ent 5) ?_; refine Ent.trans (front_ent 5) ?_; refine Ent.trans (front_ent 5) ?_; refine Ent.trans (front_ent 5) ?_; refine Ent.trans (front_ent 5) ?_; refine Ent.trans (front_ent 8) ?_; refine Ent.trans (front_ent 8) ?_; refine Ent.trans (front_ent 8) ?_)
    refine Ent.trans (prs_put hi) ?_
    (refine Ent.trans (front_ent 6) ?_; refine Ent.trans (front_ent 2) ?_; refine Ent.trans (front_ent 2) ?_; refine Ent.trans (front_ent 6) ?_; refine Ent.trans (front_ent 6) ?_; refine Ent.trans (front_ent 6) ?_; refine Ent.trans (front_ent 6) ?_)
    have hl : (ps.set i { ps[i] with S := ps[i].S }).length = ps.length := List.length_set
    have := wd_fold (w := w) (B := B + 1) (Γ := Γ) ⟨ps.set i { ps[i] with S := ps[i].S }, us ++ [(l', k)], vs, .slice (some ⟨bb, 0, none⟩) ps.length bc, lv', ev⟩ ⟨?_, ?_, by rw [hl]; omega, by rw [len_snoc]; omega, Nat.le_trans ok.nv (by omega), ?_, ok.vl⟩
    · dsimp only [wdL] at this
      rw [prs_set_fl hi, hl, List.map_append, len_snoc] at this
      exact EntR.e this
    · intro p hp
      rcases List.mem_or_eq_of_mem_set hp with h | h
      · exact (ok.ok p h).mono (Nat.le_succ B)
      · rw [h]; exact hok.mono (Nat.le_succ B)
    · intro p hp
      rcases List.mem_or_eq_of_mem_set hp with h | h
      · exact ok.has p h
      · rw [h]; exact hhas
    · intro u hu
      rcases List.mem_append.1 hu with h | h
      · exact ok.ul u h
      · rw [List.mem_singleton.1 h]; exact hk'
  generalize hpp : ps[i] = pp at *
  obtain ⟨x, m, S⟩ := pp
  dsimp only at hok hhas fin finL ⊢
  (refine Ex.front 10 ?_; refine Ex.front 10 ?_; refine Ex.front 4 ?_; refine Ex.front 4 ?_; refine Ex.front 4 ?_; refine Ex.front 10 ?_; refine Ex.front 10 ?_; refine Ex.front 10 ?_; refine Ex.front 10 ?_; refine Ex.front 10 ?_; refine Ex.front 10 ?_)
  apply joinC (ι := Bool) (fun g => g = decide (oc = 0 ∨ oc = 1)) (fun g => [(10, .bool g), (9, ptrV bl), (3, ptrV bo), (0, ptrV w)]) (fun _ => .pt bo true (.cells ⟨[.int .i64 kind, .int .i64 oa, .int .i64 oc, .int .i64 os.kind, .int .u64 os.n, .int .u64 os.p.seq, .int .i64 os.p.frm, .int .i64 os.p.to, .int .i64 os.p.coin, .int .u64 os.p.amount, .int .u64 os.p.height, .int .u64 os.p.time, oL, oM, .int .u64 on', .int .i64 od]⟩ 83 (0, 0)) ::
    .pt bl true (.cells ⟨[ptrV x, ptrV m]⟩ 124 (0, 0)) :: wdC w (.slice (some ⟨bb, 0, none⟩) ps.length bc) lv ev false :: .pr (SlV 124 2 (.slice (some ⟨bb, 0, none⟩) ps.length bc) (ps.flatMap prC) ps.length) :: .pr (SlV 53 1 lv (us.map (·.1)) us.length) :: .pr (SlV 23 1 ev (vs.map (·.1)) vs.length) ::
      .pr (BgAt x S) :: .pr (ModAt m S) :: .pr (Star (prChs (ps.eraseIdx i))) :: .pr (Star (markChs 36 markV 0 us)) :: .pr (Star (markChs 22 errV 0 vs)) :: Γ)
  · intro J
    repeat (first|refine zA rfl ?_|refine zB rfl rfl rfl ?_|refine zE rfl ?_|refine zF rfl ?_|refine zS ?_)
    refine rg_caseG rfl rfl (fun g1 => ?_) (fun g1 => ?_)
    · have g1 := of_decide_eq_true g1
      repeat (first|refine zG rfl ?_|refine zK rfl rfl ?_|refine zL rfl rfl rfl rfl (by decide) trivial rfl ?_|refine zQ ?_|refine zR ?_)
      exact Ex.sup (J true (by simp [g1])) ⟨rfl, rfl, rfl, rfl, trivial⟩
    · have g1 := of_decide_eq_false g1
      repeat (first|refine zB rfl rfl rfl ?_|refine zE rfl ?_|refine zF rfl ?_|refine zG rfl ?_|refine zK rfl rfl ?_|refine zQ ?_|refine zR ?_)
      exact Ex.sup (J (decide (oc = 1)) (by simp [g1])) ⟨rfl, rfl, rfl, rfl, trivial⟩
  intro g hg
  repeat (first|refine zB rfl rfl rfl ?_|refine zD rfl ?_|refine zF rfl ?_|refine zG rfl ?_|refine zQ ?_|refine zR ?_|refine zS ?_|refine yC ?_)
  refine ex_cond_split rfl (fun k2 => ?_) (fun k2 => ?_)
  · repeat (first|refine zD rfl ?_|refine zE rfl ?_|refine zF rfl ?_|refine zH rfl ?_|refine zR ?_|refine zS ?_)
    (refine Rg.front 8 ?_; refine Rg.front 8 ?_; refine Rg.front 7 ?_; refine Rg.front 7 ?_; refine Rg.front 7 ?_; refine Rg.front 7 ?_; refine Rg.front 7 ?_; refine Rg.front 7 ?_; refine Rg.front 8 ?_)
    refine rg_callE rfl (Do_bg x S oc os B _ hok (by omega) hs) ?_
    refine ⟨.inl rfl, ?_⟩
    repeat (first|refine zA rfl ?_|refine zG rfl ?_|refine zI rfl rfl ?_|refine zQ ?_|refine zR ?_)
    refine rg_start_s ?_
    rcases g with _ | _
    · have hc : ¬ (oc = 0 ∨ oc = 1) := of_decide_eq_false hg.symm
      have e : bgDo S oc os = (S, 0, 1) := by unfold bgDo bgStep; rw [if_neg (fun h => hc (.inl h)), if_neg (fun h => hc (.inr h))]
      rw [e]
      repeat (first|refine zA rfl ?_|refine zB rfl rfl rfl ?_|refine zG rfl ?_|refine zJ rfl ?_|refine zK rfl rfl ?_|refine zQ ?_|refine zR ?_|refine zS ?_|refine zU rfl ?_)
      (refine Ex.front 8 ?_; refine Ex.front 8 ?_; refine Ex.front 2 ?_; refine Ex.front 8 ?_; refine Ex.front 8 ?_; refine Ex.front 8 ?_; refine Ex.front 8 ?_; refine Ex.front 8 ?_; refine Ex.front 8 ?_)
      exact ex_rete ret Try.func38 rfl (Ent.drop (Ent.drop (Ent.refl _))) ⟨rfl, fin S (hok.mono (Nat.le_succ B)) hhas⟩
    · have hc : oc = 0 ∨ oc = 1 := of_decide_eq_true hg.symm
      repeat (first|refine zA rfl ?_|refine zJ rfl ?_|refine zQ ?_|refine zR ?_|refine zV rfl ?_|refine yB ?_)
      (refine Ex.front 7 ?_)
      refine Ex.open_ mod_open fun z _ => ?_
      obtain ⟨c0, c1⟩ := z
      dsimp only
      rcases hc with rfl | rfl
      · (refine Ex.front 10 ?_; refine Ex.front 10 ?_; refine Ex.front 10 ?_; refine Ex.front 10 ?_; refine Ex.front 10 ?_; refine Ex.front 10 ?_; refine Ex.front 10 ?_; refine Ex.front 10 ?_; refine Ex.front 8 ?_; refine Ex.front 9 ?_; refine Ex.front 10 ?_)
        refine Ex.open_ ref_open fun y oky => ?_
        obtain ⟨pv, av, hv, zs⟩ := y
        dsimp only [refL]
        (refine Ex.front 3 ?_)
        refine Ex.open_ (slp_shapeO (p := true)) fun q hq => ?_
        obtain ⟨ra, rc⟩ := q
        dsimp only at hq
        subst hq
        (refine Ex.front 4 ?_; refine Ex.front 1 ?_; refine Ex.front 4 ?_; refine Ex.front 4 ?_; refine Ex.front 4 ?_; refine Ex.front 5 ?_; refine Ex.front 6 ?_)
        have hl : zs.length = S.s1.heads.length := by rw [← oky.heads, List.length_map]
        have hh : bgDo S 0 os = bgStep S 0 os zs.length := by rw [hl]; rfl
        rw [hh]
        repeat (first|refine zB rfl rfl rfl ?_|refine zC rfl ?_|refine zD rfl ?_|refine zE rfl ?_|refine zF rfl ?_|refine zH rfl ?_|refine zT (by decide+kernel) (by decide+kernel) ?_)
        rw [show IntKind.wrap .i64 (1 - 0) = 1 from by decide]
        refine rg_indexArr rfl rfl (by decide) ?_
        rw [show (0 + Int.toNat 1 * 1 : Nat) = 1 from rfl]
        repeat (first|refine zC rfl ?_|refine zE rfl ?_|refine zF rfl ?_|refine zZ rfl ?_)
        refine rg_callE rfl (CallsX.ent (EntR.e (mod_fold1 c0 c1 ⟨pv, av, .slice ra zs.length rc, zs⟩ oky)) (RDo_bg m S 0 os zs.length B _ hok (by omega) hs (by omega) (by rw [hl]; exact Nat.le_refl _))) ?_
        refine ⟨.inr (by (repeat' first | exact trivial | refine ⟨.inr ⟨_, _, _, _, Find.mem, rfl⟩, ?_⟩ | refine ⟨.inr ⟨_, _, _, _, Find.mem, inferInstance⟩, ?_⟩ | refine ⟨.inr ⟨_, Find.mem⟩, ?_⟩ | refine ⟨.inl (by decide +kernel), ?_⟩)), ?_⟩
        have q1 := bgStep_keeps hok (by omega) 0 os hs.1 zs.length (by rw [hl]; exact Nat.le_refl _)
        have q2 := bgStep_has hok hhas 0 os zs.length
        generalize bgStep S 0 os zs.length = r at *
        repeat (first|refine zA rfl ?_|refine zB rfl rfl rfl ?_|refine zG rfl ?_|refine zI rfl rfl ?_|refine zQ ?_|refine zR ?_|refine zS ?_)
        simp only [eq_self, decide_true]
        repeat (first|refine zA rfl ?_|refine zB rfl rfl rfl ?_|refine zG rfl ?_|refine zK rfl rfl ?_|refine zQ ?_)
        simp only [eq_self, decide_true]
        skip
        (refine Ex.front 8 ?_; refine Ex.front 1 ?_; refine Ex.front 2 ?_; refine Ex.front 8 ?_; refine Ex.front 8 ?_; refine Ex.front 8 ?_; refine Ex.front 8 ?_; refine Ex.front 8 ?_; refine Ex.front 8 ?_)
        exact ex_rete ret Try.func38 rfl (Ent.drop (Ent.drop (Ent.refl _))) ⟨rfl, fin _ q1 q2⟩
      · (refine Ex.front 10 ?_; refine Ex.front 10 ?_; refine Ex.front 10 ?_; refine Ex.front 10 ?_; refine Ex.front 10 ?_; refine Ex.front 10 ?_; refine Ex.front 10 ?_; refine Ex.front 10 ?_; refine Ex.front 8 ?_; refine Ex.front 10 ?_; refine Ex.front 10 ?_)
        refine Ex.open_ ref_open fun y oky => ?_
        obtain ⟨pv, av, hv, zs⟩ := y
        dsimp only [refL]
        (refine Ex.front 3 ?_)
        refine Ex.open_ (slp_shapeO (p := true)) fun q hq => ?_
        obtain ⟨ra, rc⟩ := q
        dsimp only at hq
        subst hq
        (refine Ex.front 4 ?_; refine Ex.front 1 ?_; refine Ex.front 4 ?_; refine Ex.front 4 ?_; refine Ex.front 4 ?_; refine Ex.front 5 ?_; refine Ex.front 6 ?_)
        have hl : zs.length = S.s0.heads.length := by rw [← oky.heads, List.length_map]
        have hh : bgDo S 1 os = bgStep S 1 os zs.length := by rw [hl]; rfl
        rw [hh]
        repeat (first|refine zB rfl rfl rfl ?_|refine zC rfl ?_|refine zD rfl ?_|refine zE rfl ?_|refine zF rfl ?_|refine zH rfl ?_|refine zT (by decide+kernel) (by decide+kernel) ?_)
        rw [show IntKind.wrap .i64 (1 - 1) = 0 from by decide]
        refine rg_indexArr rfl rfl (by decide) ?_
        rw [show (0 + Int.toNat 0 * 1 : Nat) = 0 from rfl]
        repeat (first|refine zC rfl ?_|refine zE rfl ?_|refine zF rfl ?_|refine zZ rfl ?_)
        refine rg_callE rfl (CallsX.ent (EntR.e (mod_fold0 c0 c1 ⟨pv, av, .slice ra zs.length rc, zs⟩ oky)) (RDo_bg m S 1 os zs.length B _ hok (by omega) hs (by omega) (by rw [hl]; exact Nat.le_refl _))) ?_
        refine ⟨.inr (by (repeat' first | exact trivial | refine ⟨.inr ⟨_, _, _, _, Find.mem, rfl⟩, ?_⟩ | refine ⟨.inr ⟨_, _, _, _, Find.mem, inferInstance⟩, ?_⟩ | refine ⟨.inr ⟨_, Find.mem⟩, ?_⟩ | refine ⟨.inl (by decide +kernel), ?_⟩)), ?_⟩
        have q1 := bgStep_keeps hok (by omega) 1 os hs.1 zs.length (by rw [hl]; exact Nat.le_refl _)
        have q2 := bgStep_has hok hhas 1 os zs.length
        generalize bgStep S 1 os zs.length = r at *
        repeat (first|refine zA rfl ?_|refine zB rfl rfl rfl ?_|refine zG rfl ?_|refine zI rfl rfl ?_|refine zQ ?_|refine zR ?_|refine zS ?_)
        simp only [eq_self, decide_true]
        repeat (first|refine zA rfl ?_|refine zB rfl rfl rfl ?_|refine zG rfl ?_|refine zK rfl rfl ?_|refine zQ ?_)
        simp only [eq_self, decide_true]
        skip
        (refine Ex.front 8 ?_; refine Ex.front 1 ?_; refine Ex.front 2 ?_; refine Ex.front 8 ?_; refine Ex.front 8 ?_; refine Ex.front 8 ?_; refine Ex.front 8 ?_; refine Ex.front 8 ?_; refine Ex.front 8 ?_)
        exact ex_rete ret Try.func38 rfl (Ent.drop (Ent.drop (Ent.refl _))) ⟨rfl, fin _ q1 q2⟩
  have k2 := of_decide_eq_false k2
  repeat (first|refine zB rfl rfl rfl ?_|refine zG rfl ?_|refine zQ ?_|refine zR ?_|refine zS ?_)
  refine ex_cond_split rfl (fun k3 => ?_) (fun k3 => ?_)
  · rcases g with _ | _
    · have hc : ¬ (oc = 0 ∨ oc = 1) := of_decide_eq_false hg.symm
      repeat (first|refine zA rfl ?_|refine zE rfl ?_|refine zF rfl ?_|refine zH rfl ?_|refine zR ?_|refine zS ?_)
      (refine Rg.front 8 ?_; refine Rg.front 8 ?_; refine Rg.front 8 ?_; refine Rg.front 8 ?_; refine Rg.front 7 ?_; refine Rg.front 6 ?_; refine Rg.front 6 ?_; refine Rg.front 8 ?_; refine Rg.front 8 ?_)
      refine rg_call rfl (lookX_law w x m oc _ lv ev (us.map (·.1)) us.length _ (fun h => hc (.inl h)) (fun h => hc (.inr h)) (by omega)) ?_
      rintro _ D ⟨lv', l', k, rfl, hone, hkk, hE⟩
      refine ⟨.inl rfl, Rg.ent hE ?_⟩
      repeat (first|refine zG rfl ?_|refine zQ ?_)
      (refine Ex.front 9 ?_; refine Ex.front 7 ?_; refine Ex.front 7 ?_; refine Ex.front 9 ?_; refine Ex.front 9 ?_; refine Ex.front 7 ?_; refine Ex.front 7 ?_; refine Ex.front 7 ?_; refine Ex.front 9 ?_; refine Ex.front 9 ?_)
      exact ex_rete ret Try.func38 rfl (Ent.drop (Ent.drop (Ent.refl _))) ⟨rfl, finL lv' l' k hkk⟩
    · have hc : oc = 0 ∨ oc = 1 := of_decide_eq_true hg.symm
      rcases hc with rfl | rfl
      · repeat (first|refine zA rfl ?_|refine zE rfl ?_|refine zF rfl ?_|refine zH rfl ?_|refine zR ?_|refine zS ?_)
        (refine Rg.front 8 ?_; refine Rg.front 6 ?_; refine Rg.front 5 ?_; refine Rg.front 4 ?_; refine Rg.front 4 ?_; refine Rg.front 8 ?_; refine Rg.front 8 ?_; refine Rg.front 8 ?_; refine Rg.front 8 ?_)
        refine rg_call rfl (look0_law w x m _ lv ev (us.map (·.1)) us.length S B _ hok (by omega) (by omega)) ?_
        rintro _ D ⟨lv', l', k, rfl, hone, hkk, hE⟩
        refine ⟨.inl rfl, Rg.ent hE ?_⟩
        repeat (first|refine zG rfl ?_|refine zQ ?_)
        (refine Ex.front 9 ?_; refine Ex.front 9 ?_; refine Ex.front 9 ?_; refine Ex.front 7 ?_; refine Ex.front 7 ?_; refine Ex.front 7 ?_; refine Ex.front 7 ?_; refine Ex.front 7 ?_; refine Ex.front 9 ?_; refine Ex.front 9 ?_)
        exact ex_rete ret Try.func38 rfl (Ent.drop (Ent.drop (Ent.refl _))) ⟨rfl, finL lv' l' k hkk⟩
      · repeat (first|refine zA rfl ?_|refine zE rfl ?_|refine zF rfl ?_|refine zH rfl ?_|refine zR ?_|refine zS ?_)
        (refine Rg.front 8 ?_; refine Rg.front 6 ?_; refine Rg.front 5 ?_; refine Rg.front 4 ?_; refine Rg.front 4 ?_; refine Rg.front 8 ?_; refine Rg.front 8 ?_; refine Rg.front 8 ?_; refine Rg.front 8 ?_)
        refine rg_call rfl (look1_law w x m _ lv ev (us.map (·.1)) us.length S B _ hok (by omega) (by omega)) ?_
        rintro _ D ⟨lv', l', k, rfl, hone, hkk, hE⟩
        refine ⟨.inl rfl, Rg.ent hE ?_⟩
        repeat (first|refine zG rfl ?_|refine zQ ?_)
        (refine Ex.front 9 ?_; refine Ex.front 9 ?_; refine Ex.front 9 ?_; refine Ex.front 7 ?_; refine Ex.front 7 ?_; refine Ex.front 7 ?_; refine Ex.front 7 ?_; refine Ex.front 7 ?_; refine Ex.front 9 ?_; refine Ex.front 9 ?_)
        exact ex_rete ret Try.func38 rfl (Ent.drop (Ent.drop (Ent.refl _))) ⟨rfl, finL lv' l' k hkk⟩
  have k3 := of_decide_eq_false k3
  repeat (first|refine zB rfl rfl rfl ?_|refine zG rfl ?_|refine zQ ?_|refine zR ?_|refine zS ?_)
  refine ex_cond_split rfl (fun k4 => ?_) (fun k4 => ?_)
  · repeat (first|refine zD rfl ?_|refine zE rfl ?_|refine zF rfl ?_|refine zR ?_|refine zS ?_)
    (refine Rg.front 8 ?_; refine Rg.front 8 ?_; refine Rg.front 7 ?_; refine Rg.front 7 ?_; refine Rg.front 7 ?_; refine Rg.front 7 ?_; refine Rg.front 7 ?_; refine Rg.front 7 ?_; refine Rg.front 8 ?_)
    refine rg_callE rfl (Balance_bg x S oc od os.p.coin B _ hok (by omega)) ?_
    refine ⟨.inl rfl, ?_⟩
    repeat (first|refine zG rfl ?_|refine zQ ?_|refine zR ?_)
    refine rg_start_s ?_
    rcases g with _ | _
    · have hc : ¬ (oc = 0 ∨ oc = 1) := of_decide_eq_false hg.symm
      have e : bgBal S oc od os.p.coin = 0 := by unfold bgBal; rw [if_neg (fun h => hc (.inl h)), if_neg (fun h => hc (.inr h))]
      rw [e]
      repeat (first|refine zA rfl ?_|refine zB rfl rfl rfl ?_|refine zG rfl ?_|refine zJ rfl ?_|refine zK rfl rfl ?_|refine zL rfl rfl rfl rfl (by decide) trivial rfl ?_|refine zQ ?_|refine zR ?_|refine zS ?_|refine zU rfl ?_)
      (refine Ex.front 8 ?_; refine Ex.front 8 ?_; refine Ex.front 2 ?_; refine Ex.front 8 ?_; refine Ex.front 8 ?_; refine Ex.front 8 ?_; refine Ex.front 8 ?_; refine Ex.front 8 ?_; refine Ex.front 8 ?_)
      exact ex_rete ret Try.func38 rfl (Ent.drop (Ent.drop (Ent.refl _))) ⟨rfl, fin S (hok.mono (Nat.le_succ B)) hhas⟩
    have hc : oc = 0 ∨ oc = 1 := of_decide_eq_true hg.symm
    repeat (first|refine zA rfl ?_|refine zB rfl rfl rfl ?_|refine zE rfl ?_|refine zF rfl ?_|refine zJ rfl ?_|refine zK rfl rfl ?_)
    refine rg_caseG rfl rfl (fun h1 => ?_) (fun h1 => ?_)
    · have g9 := of_decide_eq_true h1
      have e : bgBal S oc od os.p.coin = 0 := bal_zero hhas _ _ _ (by rintro ⟨h1, h2⟩; simp [isUser] at h1; omega)
      rw [e]
      repeat (first|refine zA rfl ?_|refine zB rfl rfl rfl ?_|refine zG rfl ?_|refine zK rfl rfl ?_|refine zL rfl rfl rfl rfl (by decide) trivial rfl ?_|refine zQ ?_|refine zR ?_|refine zS ?_|refine zU rfl ?_)
      (refine Ex.front 8 ?_; refine Ex.front 8 ?_; refine Ex.front 2 ?_; refine Ex.front 8 ?_; refine Ex.front 8 ?_; refine Ex.front 8 ?_; refine Ex.front 8 ?_; refine Ex.front 8 ?_; refine Ex.front 8 ?_)
      exact ex_rete ret Try.func38 rfl (Ent.drop (Ent.drop (Ent.refl _))) ⟨rfl, fin S (hok.mono (Nat.le_succ B)) hhas⟩
    have h1 := of_decide_eq_false h1
    repeat (first|refine zA rfl ?_|refine zB rfl rfl rfl ?_|refine zE rfl ?_|refine zF rfl ?_|refine zK rfl rfl ?_)
    refine rg_caseG rfl rfl (fun h2 => ?_) (fun h2 => ?_)
    · have g9 := of_decide_eq_true h2
      have e : bgBal S oc od os.p.coin = 0 := bal_zero hhas _ _ _ (by rintro ⟨h1, h2⟩; simp [isUser] at h1; omega)
      rw [e]
      repeat (first|refine zA rfl ?_|refine zB rfl rfl rfl ?_|refine zG rfl ?_|refine zK rfl rfl ?_|refine zL rfl rfl rfl rfl (by decide) trivial rfl ?_|refine zQ ?_|refine zR ?_|refine zS ?_|refine zU rfl ?_)
      (refine Ex.front 8 ?_; refine Ex.front 8 ?_; refine Ex.front 2 ?_; refine Ex.front 8 ?_; refine Ex.front 8 ?_; refine Ex.front 8 ?_; refine Ex.front 8 ?_; refine Ex.front 8 ?_; refine Ex.front 8 ?_)
      exact ex_rete ret Try.func38 rfl (Ent.drop (Ent.drop (Ent.refl _))) ⟨rfl, fin S (hok.mono (Nat.le_succ B)) hhas⟩
    have h2 := of_decide_eq_false h2
    repeat (first|refine zA rfl ?_|refine zB rfl rfl rfl ?_|refine zE rfl ?_|refine zF rfl ?_|refine zK rfl rfl ?_)
    refine rg_caseG rfl rfl (fun h3 => ?_) (fun h3 => ?_)
    · have g9 := of_decide_eq_true h3
      have e : bgBal S oc od os.p.coin = 0 := bal_zero hhas _ _ _ (by rintro ⟨h1, h2⟩; simp [isUser] at h1; omega)
      rw [e]
      repeat (first|refine zA rfl ?_|refine zB rfl rfl rfl ?_|refine zG rfl ?_|refine zK rfl rfl ?_|refine zL rfl rfl rfl rfl (by decide) trivial rfl ?_|refine zQ ?_|refine zR ?_|refine zS ?_|refine zU rfl ?_)
      (refine Ex.front 8 ?_; refine Ex.front 8 ?_; refine Ex.front 2 ?_; refine Ex.front 8 ?_; refine Ex.front 8 ?_; refine Ex.front 8 ?_; refine Ex.front 8 ?_; refine Ex.front 8 ?_; refine Ex.front 8 ?_)
      exact ex_rete ret Try.func38 rfl (Ent.drop (Ent.drop (Ent.refl _))) ⟨rfl, fin S (hok.mono (Nat.le_succ B)) hhas⟩
    have h3 := of_decide_eq_false h3
    repeat (first|refine zB rfl rfl rfl ?_|refine zE rfl ?_|refine zF rfl ?_|refine zK rfl rfl ?_|refine zQ ?_)
    refine ex_cond_split rfl (fun h4 => ?_) (fun h4 => ?_)
    · have g9 := of_decide_eq_true h4
      have e : bgBal S oc od os.p.coin = 0 := bal_zero hhas _ _ _ (by rintro ⟨h1, h2⟩; simp [isUser] at h1; omega)
      rw [e]
      repeat (first|refine zA rfl ?_|refine zB rfl rfl rfl ?_|refine zG rfl ?_|refine zQ ?_|refine zR ?_|refine zS ?_)
      (refine Ex.front 8 ?_; refine Ex.front 8 ?_; refine Ex.front 2 ?_; refine Ex.front 8 ?_; refine Ex.front 8 ?_; refine Ex.front 8 ?_; refine Ex.front 8 ?_; refine Ex.front 8 ?_; refine Ex.front 8 ?_)
      exact ex_rete ret Try.func38 rfl (Ent.drop (Ent.drop (Ent.refl _))) ⟨rfl, fin S (hok.mono (Nat.le_succ B)) hhas⟩
    have h4 := of_decide_eq_false h4
    repeat (first|refine zR ?_|refine yB ?_)
    (refine Ex.front 7 ?_)
    refine Ex.open_ mod_open fun z _ => ?_
    obtain ⟨c0, c1⟩ := z
    dsimp only
    rcases hc with rfl | rfl
    · (refine Ex.front 10 ?_; refine Ex.front 10 ?_; refine Ex.front 10 ?_; refine Ex.front 10 ?_; refine Ex.front 10 ?_; refine Ex.front 10 ?_; refine Ex.front 10 ?_; refine Ex.front 10 ?_; refine Ex.front 8 ?_; refine Ex.front 10 ?_; refine Ex.front 10 ?_)
      refine Ex.open_ ref_open fun y oky => ?_
      obtain ⟨pv, av, hv, zs⟩ := y
      dsimp only [refL]
      repeat (first|refine zA rfl ?_|refine zC rfl ?_|refine zD rfl ?_|refine zE rfl ?_|refine zF rfl ?_|refine zT (by decide+kernel) (by decide+kernel) ?_)
      refine rg_indexArr rfl rfl (by decide) ?_
      rw [show (0 + Int.toNat 0 * 1 : Nat) = 0 from rfl]
      repeat (first|refine zC rfl ?_|refine zE rfl ?_|refine zF rfl ?_)
      refine rg_indexArr rfl rfl (by omega) ?_
      skip
      refine rg_indexArr rfl rfl (by omega) ?_
      skip
      refine rg_load rfl ?_ (has_get S.s0 pv av hv od os.p.coin (by omega) (by omega))
      rw [show bgBal S 0 od os.p.coin = S.s0.has od os.p.coin from rfl]
      repeat (first|refine zB rfl rfl rfl ?_|refine zG rfl ?_|refine zQ ?_)
      simp only [eq_self, decide_true]
      skip
      (refine Ex.front 14 ?_; refine Ex.front 14 ?_; refine Ex.front 14 ?_; refine Ex.front 14 ?_; refine Ex.front 14 ?_; refine Ex.front 14 ?_; refine Ex.front 14 ?_; refine Ex.front 14 ?_; refine Ex.front 12 ?_; refine Ex.front 12 ?_; refine Ex.front 12 ?_; refine Ex.front 12 ?_; refine Ex.front 12 ?_; refine Ex.front 13 ?_; refine Ex.front 14 ?_)
      refine Ex.ent (EntR.e (mod_fold0 c0 c1 ⟨pv, av, hv, zs⟩ oky)) ?_
      (refine Ex.front 8 ?_; refine Ex.front 1 ?_; refine Ex.front 2 ?_; refine Ex.front 8 ?_; refine Ex.front 8 ?_; refine Ex.front 8 ?_; refine Ex.front 8 ?_; refine Ex.front 8 ?_; refine Ex.front 8 ?_)
      exact ex_rete ret Try.func38 rfl (Ent.drop (Ent.drop (Ent.refl _))) ⟨rfl, fin S (hok.mono (Nat.le_succ B)) hhas⟩
    · (refine Ex.front 10 ?_; refine Ex.front 10 ?_; refine Ex.front 10 ?_; refine Ex.front 10 ?_; refine Ex.front 10 ?_; refine Ex.front 10 ?_; refine Ex.front 10 ?_; refine Ex.front 10 ?_; refine Ex.front 8 ?_; refine Ex.front 9 ?_; refine Ex.front 10 ?_)
      refine Ex.open_ ref_open fun y oky => ?_
      obtain ⟨pv, av, hv, zs⟩ := y
      dsimp only [refL]
      repeat (first|refine zA rfl ?_|refine zC rfl ?_|refine zD rfl ?_|refine zE rfl ?_|refine zF rfl ?_|refine zT (by decide+kernel) (by decide+kernel) ?_)
      refine rg_indexArr rfl rfl (by decide) ?_
      rw [show (0 + Int.toNat 1 * 1 : Nat) = 1 from rfl]
      repeat (first|refine zC rfl ?_|refine zE rfl ?_|refine zF rfl ?_)
      refine rg_indexArr rfl rfl (by omega) ?_
      skip
      refine rg_indexArr rfl rfl (by omega) ?_
      skip
      refine rg_load rfl ?_ (has_get S.s1 pv av hv od os.p.coin (by omega) (by omega))
      rw [show bgBal S 1 od os.p.coin = S.s1.has od os.p.coin from rfl]
      repeat (first|refine zB rfl rfl rfl ?_|refine zG rfl ?_|refine zQ ?_)
      simp only [eq_self, decide_true]
      skip
      (refine Ex.front 14 ?_; refine Ex.front 14 ?_; refine Ex.front 14 ?_; refine Ex.front 14 ?_; refine Ex.front 14 ?_; refine Ex.front 14 ?_; refine Ex.front 14 ?_; refine Ex.front 14 ?_; refine Ex.front 12 ?_; refine Ex.front 12 ?_; refine Ex.front 12 ?_; refine Ex.front 12 ?_; refine Ex.front 12 ?_; refine Ex.front 13 ?_; refine Ex.front 14 ?_)
      refine Ex.ent (EntR.e (mod_fold1 c0 c1 ⟨pv, av, hv, zs⟩ oky)) ?_
      (refine Ex.front 8 ?_; refine Ex.front 1 ?_; refine Ex.front 2 ?_; refine Ex.front 8 ?_; refine Ex.front 8 ?_; refine Ex.front 8 ?_; refine Ex.front 8 ?_; refine Ex.front 8 ?_; refine Ex.front 8 ?_)
      exact ex_rete ret Try.func38 rfl (Ent.drop (Ent.drop (Ent.refl _))) ⟨rfl, fin S (hok.mono (Nat.le_succ B)) hhas⟩
  have k4 := of_decide_eq_false k4
  repeat (first|refine zB rfl rfl rfl ?_|refine zG rfl ?_|refine zQ ?_|refine zR ?_|refine zS ?_)
  refine ex_cond_split rfl (fun k5 => ?_) (fun k5 => ?_)
  · repeat (first|refine zD rfl ?_|refine zE rfl ?_|refine zF rfl ?_|refine zR ?_|refine zS ?_)
    (refine Rg.front 8 ?_; refine Rg.front 8 ?_; refine Rg.front 7 ?_; refine Rg.front 7 ?_; refine Rg.front 7 ?_; refine Rg.front 7 ?_; refine Rg.front 7 ?_; refine Rg.front 7 ?_; refine Rg.front 8 ?_)
    refine rg_callE rfl (Head_bg x S oc on' B _ hok (by omega) hn.1) ?_
    refine ⟨.inl rfl, ?_⟩
    repeat (first|refine zA rfl ?_|refine zG rfl ?_|refine zI rfl rfl ?_|refine zO rfl rfl ?_|refine zQ ?_|refine zR ?_|refine zW fun bl=>?_)
    refine rg_start_s ?_
    rcases g with _ | _
    · have hc : ¬ (oc = 0 ∨ oc = 1) := of_decide_eq_false hg.symm
      have e : headRes S.s0 S.s1 oc on' = (shZ, 1) := by unfold headRes; rw [if_neg (fun h => hc (.inl h)), if_neg (fun h => hc (.inr h))]
      rw [e]
      repeat (first|refine zA rfl ?_|refine zH rfl ?_|refine zJ rfl ?_|refine zQ ?_|refine zR ?_|refine zS ?_|refine zU rfl ?_|refine zY rfl ?_)
      refine rg_eqAgg (rs := [decide (shZ.height = shZ.height), decide (shZ.time = shZ.time), shZ.opn == shZ.opn, decide (shZ.nrecv = shZ.nrecv), decide (shZ.np = shZ.np), decide (shZ.na = shZ.na)]) rfl rfl head_under head_held head_guard ⟨eqF_int (by decide) rfl rfl, eqF_int (by decide) rfl rfl, eqF_bool (by decide) rfl rfl, eqF_int (by decide) rfl rfl, eqF_int (by decide) rfl rfl, eqF_int (by decide) rfl rfl, trivial⟩ ?_
      rw [sh_eq]
      simp only [decide_true]
      repeat (first|refine zA rfl ?_|refine zB rfl rfl rfl ?_|refine zG rfl ?_|refine zK rfl rfl ?_|refine zQ ?_)
      (refine Ex.front 9 ?_; refine Ex.front 9 ?_; refine Ex.front 3 ?_; refine Ex.front 9 ?_; refine Ex.front 9 ?_; refine Ex.front 9 ?_; refine Ex.front 9 ?_; refine Ex.front 9 ?_; refine Ex.front 9 ?_; refine Ex.front 9 ?_)
      exact ex_rete ret Try.func38 rfl (Ent.drop (Ent.drop (Ent.drop (Ent.refl _)))) ⟨rfl, fin S (hok.mono (Nat.le_succ B)) hhas⟩
    have hc : oc = 0 ∨ oc = 1 := of_decide_eq_true hg.symm
    repeat (first|refine zA rfl ?_|refine zJ rfl ?_|refine zQ ?_|refine zR ?_|refine zV rfl ?_|refine yB ?_)
    (refine Ex.front 8 ?_)
    refine Ex.open_ mod_open fun z _ => ?_
    obtain ⟨c0, c1⟩ := z
    dsimp only
    rcases hc with rfl | rfl
    · (refine Ex.front 11 ?_; refine Ex.front 11 ?_; refine Ex.front 11 ?_; refine Ex.front 11 ?_; refine Ex.front 11 ?_; refine Ex.front 11 ?_; refine Ex.front 11 ?_; refine Ex.front 11 ?_; refine Ex.front 11 ?_; refine Ex.front 9 ?_; refine Ex.front 11 ?_; refine Ex.front 11 ?_)
      refine Ex.open_ ref_open fun y oky => ?_
      obtain ⟨pv, av, hv, zs⟩ := y
      dsimp only [refL]
      have hl : zs.length = S.s0.heads.length := by rw [← oky.heads, List.length_map]
      have hll := heads_len hok.ok0 (by omega)
      have hpos : 0 < zs.length := by have := hok.k1; omega
      (refine Ex.front 4 ?_)
      refine Ex.open_ rheads_shape fun _ sh => ?_
      (refine Ex.front 4 ?_)
      refine ex_slp (p := true) (fun _ _ h => absurd h (by omega)) (fun hb cap slack hq hz => ?_)
      subst hq
      repeat (first|refine zC rfl ?_|refine zD rfl ?_|refine zE rfl ?_|refine zF rfl ?_|refine zT (by decide+kernel) (by decide+kernel) ?_)
      refine rg_indexArr rfl rfl (by decide) ?_
      rw [show (0 + Int.toNat 0 * 1 : Nat) = 0 from rfl]
      repeat (first|refine zB rfl rfl rfl ?_|refine zC rfl ?_|refine zE rfl ?_|refine zF rfl ?_|refine zP rfl ?_|refine zQ ?_|refine zZ rfl ?_)
      rw [show IntKind.wrap .u64 (zs.length : Int) = zs.length from wu_id (by omega)]
      have foldG : ∀ Δ, Ent (.pt hb true (.cells ⟨zs.flatMap hdC ++ slack⟩ 129 (0, 0)) :: .pr (RHeads zs) :: .pt c0 true (.cells ⟨rcCells S.s0 pv av (.slice (some ⟨hb, 0, none⟩) zs.length cap)⟩ 132 (0, 0)) :: .pr (SlV 49 7 pv (pkFl S.s0.hd.packets) S.s0.hd.packets.length) :: .pr (SlV 186 2 av (anFl S.s0.hd.answers) S.s0.hd.answers.length) :: .pr (RefAt c1 S.s1) :: mdC m (ptrV c0) (ptrV c1) S.tk :: Δ) (.pr (ModAt m S) :: Δ) := fun Δ => by
        refine Ent.trans (EntR.e (slp_fold hb cap slack hz)) ?_
        (refine Ent.trans (front_ent 1) ?_; refine Ent.trans (front_ent 1) ?_; refine Ent.trans (front_ent 4) ?_; refine Ent.trans (front_ent 4) ?_; refine Ent.trans (front_ent 4) ?_; refine Ent.trans (front_ent 5) ?_; refine Ent.trans (front_ent 6) ?_)
        exact EntR.e (mod_fold0 c0 c1 ⟨pv, av, .slice (some ⟨hb, 0, none⟩) zs.length cap, zs⟩ oky)
      refine ex_cond_split rfl (fun h1 => ?_) (fun h1 => ?_)
      · have h1 := of_decide_eq_true h1
        have e : headRes S.s0 S.s1 0 on' = (shZ, 8) := by rw [show headRes S.s0 S.s1 0 on' = hdRes S.s0 on' from rfl, hdRes_none (by omega)]
        rw [e]
        repeat (first|refine zH rfl ?_|refine zR ?_|refine zS ?_|refine zY rfl ?_)
        refine rg_eqAgg (rs := [decide (shZ.height = shZ.height), decide (shZ.time = shZ.time), shZ.opn == shZ.opn, decide (shZ.nrecv = shZ.nrecv), decide (shZ.np = shZ.np), decide (shZ.na = shZ.na)]) rfl rfl head_under head_held head_guard ⟨eqF_int (by decide) rfl rfl, eqF_int (by decide) rfl rfl, eqF_bool (by decide) rfl rfl, eqF_int (by decide) rfl rfl, eqF_int (by decide) rfl rfl, eqF_int (by decide) rfl rfl, trivial⟩ ?_
        rw [sh_eq]
        simp only [decide_true]
        repeat (first|refine zA rfl ?_|refine zB rfl rfl rfl ?_|refine zG rfl ?_|refine zK rfl rfl ?_|refine zQ ?_)
        (refine Ex.front 15 ?_; refine Ex.front 9 ?_; refine Ex.front 8 ?_; refine Ex.front 8 ?_; refine Ex.front 8 ?_; refine Ex.front 8 ?_; refine Ex.front 8 ?_; refine Ex.front 8 ?_; refine Ex.front 8 ?_; refine Ex.front 15 ?_; refine Ex.front 15 ?_; refine Ex.front 15 ?_; refine Ex.front 15 ?_; refine Ex.front 15 ?_; refine Ex.front 15 ?_; refine Ex.front 15 ?_)
        refine ex_rete ret Try.func38 rfl (Ent.drop (Ent.drop (Ent.drop (Ent.refl _)))) ⟨rfl, Ent.trans (Ent.cons (Ent.cons (Ent.cons (Ent.cons ?_)))) (fin S (hok.mono (Nat.le_succ B)) hhas)⟩
        exact Ent.trans (foldG _) (front_ent 1)
      · have h1 := of_decide_eq_false h1
        obtain ⟨q1, hq1, hx1⟩ := zs_get (i := on'.toNat) oky.heads (by omega)
        obtain ⟨a1, a2, k1', k2', w1⟩ := sh q1 (List.mem_of_getElem? hq1)
        have e : headRes S.s0 S.s1 0 on' = (shOf q1.1, 0) := by rw [show headRes S.s0 S.s1 0 on' = hdRes S.s0 on' from rfl, hdRes_some (by omega) hx1]
        rw [e]
        rw [w1] at hq1
        repeat (first|refine zR ?_|refine yB ?_)
        (refine rg_start_p [0, 1, 2, 3, 4, 5, 6, 7, 8, 9, 10, 11, 12, 13, 14, 15, 16, 17, 18, 19, 20, 21, 22] (by decide +kernel) (by decide +kernel) (by simp only [permL, List.getElem?_cons_succ, List.getElem?_cons_zero]; rfl) ?_)
        repeat (first|refine zA rfl ?_|refine zB rfl rfl rfl ?_|refine zC rfl ?_|refine zD rfl ?_|refine zE rfl ?_|refine zF rfl ?_|refine zH rfl ?_)
        refine rg_indexArr rfl rfl (by decide) ?_
        rw [show (0 + Int.toNat 0 * 1 : Nat) = 0 from rfl]
        repeat (first|refine zC rfl ?_|refine zE rfl ?_|refine zF rfl ?_)
        refine rg_indexSl rfl rfl ⟨by omega, by omega⟩ ?_
        rw [Nat.zero_add (on'.toNat * 6)]
        haveI := sliceL_flat hdC_len zs on'.toNat _ hq1 slack
        refine rg_loadAgg rfl ?_
        skip
        refine rg_callQE rfl (fun Δ => rhead_ok q1.1 a1 a2 k1' k2' Δ) ?_
        generalize shOf q1.1 = x0 at *
        refine rg_eqAgg (rs := [decide (x0.height = x0.height), decide (x0.time = x0.time), x0.opn == x0.opn, decide (x0.nrecv = x0.nrecv), decide (x0.np = x0.np), decide (x0.na = x0.na)]) rfl rfl head_under head_held head_guard ⟨eqF_int (by decide) rfl rfl, eqF_int (by decide) rfl rfl, eqF_bool (by decide) rfl rfl, eqF_int (by decide) rfl rfl, eqF_int (by decide) rfl rfl, eqF_int (by decide) rfl rfl, trivial⟩ ?_
        rw [sh_eq]
        simp only [decide_true]
        repeat (first|refine zG rfl ?_|refine zK rfl rfl ?_|refine zQ ?_)
        (refine Ex.front 15 ?_; refine Ex.front 9 ?_; refine Ex.front 8 ?_; refine Ex.front 8 ?_; refine Ex.front 8 ?_; refine Ex.front 8 ?_; refine Ex.front 8 ?_; refine Ex.front 8 ?_; refine Ex.front 8 ?_; refine Ex.front 15 ?_; refine Ex.front 15 ?_; refine Ex.front 15 ?_; refine Ex.front 15 ?_; refine Ex.front 15 ?_; refine Ex.front 15 ?_; refine Ex.front 15 ?_)
        refine ex_rete ret Try.func38 rfl (Ent.drop (Ent.drop (Ent.drop (Ent.refl _)))) ⟨rfl, Ent.trans (Ent.cons (Ent.cons (Ent.cons (Ent.cons ?_)))) (fin S (hok.mono (Nat.le_succ B)) hhas)⟩
        exact Ent.trans (foldG _) (front_ent 1)
    · (refine Ex.front 11 ?_; refine Ex.front 11 ?_; refine Ex.front 11 ?_; refine Ex.front 11 ?_; refine Ex.front 11 ?_; refine Ex.front 11 ?_; refine Ex.front 11 ?_; refine Ex.front 11 ?_; refine Ex.front 11 ?_; refine Ex.front 9 ?_; refine Ex.front 10 ?_; refine Ex.front 11 ?_)
      refine Ex.open_ ref_open fun y oky => ?_
      obtain ⟨pv, av, hv, zs⟩ := y
      dsimp only [refL]
      have hl : zs.length = S.s1.heads.length := by rw [← oky.heads, List.length_map]
      have hll := heads_len hok.ok1 (by omega)
      have hpos : 0 < zs.length := by have := hok.k0; omega
      (refine Ex.front 4 ?_)
      refine Ex.open_ rheads_shape fun _ sh => ?_
      (refine Ex.front 4 ?_)
      refine ex_slp (p := true) (fun _ _ h => absurd h (by omega)) (fun hb cap slack hq hz => ?_)
      subst hq
      repeat (first|refine zC rfl ?_|refine zD rfl ?_|refine zE rfl ?_|refine zF rfl ?_|refine zT (by decide+kernel) (by decide+kernel) ?_)
      refine rg_indexArr rfl rfl (by decide) ?_
      rw [show (0 + Int.toNat 1 * 1 : Nat) = 1 from rfl]
      repeat (first|refine zB rfl rfl rfl ?_|refine zC rfl ?_|refine zE rfl ?_|refine zF rfl ?_|refine zP rfl ?_|refine zQ ?_|refine zZ rfl ?_)
      rw [show IntKind.wrap .u64 (zs.length : Int) = zs.length from wu_id (by omega)]
      have foldG : ∀ Δ, Ent (.pt hb true (.cells ⟨zs.flatMap hdC ++ slack⟩ 129 (0, 0)) :: .pr (RHeads zs) :: .pt c1 true (.cells ⟨rcCells S.s1 pv av (.slice (some ⟨hb, 0, none⟩) zs.length cap)⟩ 132 (0, 0)) :: .pr (SlV 49 7 pv (pkFl S.s1.hd.packets) S.s1.hd.packets.length) :: .pr (SlV 186 2 av (anFl S.s1.hd.answers) S.s1.hd.answers.length) :: .pr (RefAt c0 S.s0) :: mdC m (ptrV c0) (ptrV c1) S.tk :: Δ) (.pr (ModAt m S) :: Δ) := fun Δ => by
        refine Ent.trans (EntR.e (slp_fold hb cap slack hz)) ?_
        (refine Ent.trans (front_ent 1) ?_; refine Ent.trans (front_ent 1) ?_; refine Ent.trans (front_ent 4) ?_; refine Ent.trans (front_ent 4) ?_; refine Ent.trans (front_ent 4) ?_; refine Ent.trans (front_ent 5) ?_; refine Ent.trans (front_ent 6) ?_)
        exact EntR.e (mod_fold1 c0 c1 ⟨pv, av, .slice (some ⟨hb, 0, none⟩) zs.length cap, zs⟩ oky)
      refine ex_cond_split rfl (fun h1 => ?_) (fun h1 => ?_)
      · have h1 := of_decide_eq_true h1
        have e : headRes S.s0 S.s1 1 on' = (shZ, 8) := by rw [show headRes S.s0 S.s1 1 on' = hdRes S.s1 on' from rfl, hdRes_none (by omega)]
        rw [e]
        repeat (first|refine zH rfl ?_|refine zR ?_|refine zS ?_|refine zY rfl ?_)
        refine rg_eqAgg (rs := [decide (shZ.height = shZ.height), decide (shZ.time = shZ.time), shZ.opn == shZ.opn, decide (shZ.nrecv = shZ.nrecv), decide (shZ.np = shZ.np), decide (shZ.na = shZ.na)]) rfl rfl head_under head_held head_guard ⟨eqF_int (by decide) rfl rfl, eqF_int (by decide) rfl rfl, eqF_bool (by decide) rfl rfl, eqF_int (by decide) rfl rfl, eqF_int (by decide) rfl rfl, eqF_int (by decide) rfl rfl, trivial⟩ ?_
        rw [sh_eq]
        simp only [decide_true]
        repeat (first|refine zA rfl ?_|refine zB rfl rfl rfl ?_|refine zG rfl ?_|refine zK rfl rfl ?_|refine zQ ?_)
        (refine Ex.front 15 ?_; refine Ex.front 9 ?_; refine Ex.front 8 ?_; refine Ex.front 8 ?_; refine Ex.front 8 ?_; refine Ex.front 8 ?_; refine Ex.front 8 ?_; refine Ex.front 8 ?_; refine Ex.front 8 ?_; refine Ex.front 15 ?_; refine Ex.front 15 ?_; refine Ex.front 15 ?_; refine Ex.front 15 ?_; refine Ex.front 15 ?_; refine Ex.front 15 ?_; refine Ex.front 15 ?_)
        refine ex_rete ret Try.func38 rfl (Ent.drop (Ent.drop (Ent.drop (Ent.refl _)))) ⟨rfl, Ent.trans (Ent.cons (Ent.cons (Ent.cons (Ent.cons ?_)))) (fin S (hok.mono (Nat.le_succ B)) hhas)⟩
        exact Ent.trans (foldG _) (front_ent 1)
      · have h1 := of_decide_eq_false h1
        obtain ⟨q1, hq1, hx1⟩ := zs_get (i := on'.toNat) oky.heads (by omega)
        obtain ⟨a1, a2, k1', k2', w1⟩ := sh q1 (List.mem_of_getElem? hq1)
        have e : headRes S.s0 S.s1 1 on' = (shOf q1.1, 0) := by rw [show headRes S.s0 S.s1 1 on' = hdRes S.s1 on' from rfl, hdRes_some (by omega) hx1]
        rw [e]
        rw [w1] at hq1
        repeat (first|refine zR ?_|refine yB ?_)
        (refine rg_start_p [0, 1, 2, 3, 4, 5, 6, 7, 8, 9, 10, 11, 12, 13, 14, 15, 16, 17, 18, 19, 20, 21, 22] (by decide +kernel) (by decide +kernel) (by simp only [permL, List.getElem?_cons_succ, List.getElem?_cons_zero]; rfl) ?_)
        repeat (first|refine zA rfl ?_|refine zB rfl rfl rfl ?_|refine zC rfl ?_|refine zD rfl ?_|refine zE rfl ?_|refine zF rfl ?_|refine zH rfl ?_)
        refine rg_indexArr rfl rfl (by decide) ?_
        rw [show (0 + Int.toNat 1 * 1 : Nat) = 1 from rfl]
        repeat (first|refine zC rfl ?_|refine zE rfl ?_|refine zF rfl ?_)
        refine rg_indexSl rfl rfl ⟨by omega, by omega⟩ ?_
        rw [Nat.zero_add (on'.toNat * 6)]
        haveI := sliceL_flat hdC_len zs on'.toNat _ hq1 slack
        refine rg_loadAgg rfl ?_
        skip
        refine rg_callQE rfl (fun Δ => rhead_ok q1.1 a1 a2 k1' k2' Δ) ?_
        generalize shOf q1.1 = x0 at *
        refine rg_eqAgg (rs := [decide (x0.height = x0.height), decide (x0.time = x0.time), x0.opn == x0.opn, decide (x0.nrecv = x0.nrecv), decide (x0.np = x0.np), decide (x0.na = x0.na)]) rfl rfl head_under head_held head_guard ⟨eqF_int (by decide) rfl rfl, eqF_int (by decide) rfl rfl, eqF_bool (by decide) rfl rfl, eqF_int (by decide) rfl rfl, eqF_int (by decide) rfl rfl, eqF_int (by decide) rfl rfl, trivial⟩ ?_
        rw [sh_eq]
        simp only [decide_true]
        repeat (first|refine zG rfl ?_|refine zK rfl rfl ?_|refine zQ ?_)
        (refine Ex.front 15 ?_; refine Ex.front 9 ?_; refine Ex.front 8 ?_; refine Ex.front 8 ?_; refine Ex.front 8 ?_; refine Ex.front 8 ?_; refine Ex.front 8 ?_; refine Ex.front 8 ?_; refine Ex.front 8 ?_; refine Ex.front 15 ?_; refine Ex.front 15 ?_; refine Ex.front 15 ?_; refine Ex.front 15 ?_; refine Ex.front 15 ?_; refine Ex.front 15 ?_; refine Ex.front 15 ?_)
        refine ex_rete ret Try.func38 rfl (Ent.drop (Ent.drop (Ent.drop (Ent.refl _)))) ⟨rfl, Ent.trans (Ent.cons (Ent.cons (Ent.cons (Ent.cons ?_)))) (fin S (hok.mono (Nat.le_succ B)) hhas)⟩
        exact Ent.trans (foldG _) (front_ent 1)
  have k5 := of_decide_eq_false k5
  repeat (first|refine zB rfl rfl rfl ?_|refine zG rfl ?_|refine zQ ?_|refine zR ?_|refine zS ?_)
  refine ex_cond_split rfl (fun k6 => ?_) (fun k6 => ?_)
  · repeat refine zR ?_
    (refine rg_start_p [0, 1, 2, 3, 4, 5, 6, 7, 8, 9, 10, 12, 13, 14, 11, 15, 16, 17] (by decide +kernel) (by decide +kernel) (by simp only [permL, List.getElem?_cons_succ, List.getElem?_cons_zero]; rfl) ?_)
    repeat (first|refine zD rfl ?_|refine zE rfl ?_|refine zF rfl ?_|refine zH rfl ?_)
    (refine Rg.front 8 ?_; refine Rg.front 8 ?_; refine Rg.front 7 ?_; refine Rg.front 7 ?_; refine Rg.front 7 ?_; refine Rg.front 7 ?_; refine Rg.front 7 ?_; refine Rg.front 7 ?_; refine Rg.front 8 ?_)
    refine rg_callE rfl (Same_bg x S oc on' od os.n B _ hok (by omega) hn.1 hs.1) ?_
    refine ⟨.inr (by (repeat' first | exact trivial | refine ⟨.inr ⟨_, _, _, _, Find.mem, rfl⟩, ?_⟩ | refine ⟨.inr ⟨_, _, _, _, Find.mem, inferInstance⟩, ?_⟩ | refine ⟨.inr ⟨_, Find.mem⟩, ?_⟩ | refine ⟨.inl (by decide +kernel), ?_⟩)), ?_⟩
    skip
    (refine Rg.front 8 ?_; refine Rg.front 7 ?_; refine Rg.front 7 ?_; refine Rg.front 7 ?_; refine Rg.front 7 ?_; refine Rg.front 7 ?_; refine Rg.front 7 ?_; refine Rg.front 7 ?_; refine Rg.front 8 ?_)
    refine rg_callE rfl (alike_ok m S ⟨kind, oa, oc, os, oL, oM, on', od⟩ B _ hok (by omega) hn.1 hs.1) ?_
    refine ⟨.inr (by (repeat' first | exact trivial | refine ⟨.inr ⟨_, _, _, _, Find.mem, rfl⟩, ?_⟩ | refine ⟨.inr ⟨_, _, _, _, Find.mem, inferInstance⟩, ?_⟩ | refine ⟨.inr ⟨_, Find.mem⟩, ?_⟩ | refine ⟨.inl (by decide +kernel), ?_⟩)), ?_⟩
    refine rg_eqBool rfl rfl ?_
    simp only [beq_self_eq_true]
    repeat (first|refine zG rfl ?_|refine zQ ?_)
    (refine Ex.front 8 ?_; refine Ex.front 1 ?_; refine Ex.front 2 ?_; refine Ex.front 8 ?_; refine Ex.front 8 ?_; refine Ex.front 8 ?_; refine Ex.front 8 ?_; refine Ex.front 8 ?_; refine Ex.front 8 ?_)
    exact ex_rete ret Try.func38 rfl (Ent.drop (Ent.drop (Ent.refl _))) ⟨rfl, fin S (hok.mono (Nat.le_succ B)) hhas⟩
  have k6 := of_decide_eq_false k6
  repeat (first|refine zB rfl rfl rfl ?_|refine zG rfl ?_|refine zQ ?_|refine zR ?_|refine zS ?_)
  refine ex_cond_split rfl (fun k7 => ?_) (fun k7 => ?_)
  · repeat refine zR ?_
    (refine Ex.front 7 ?_)
    refine Ex.open_ mod_open fun z _ => ?_
    obtain ⟨c0, c1⟩ := z
    dsimp only
    (refine rg_start_p [0, 1, 3, 4, 5, 6, 7, 2, 8, 9] (by decide +kernel) (by decide +kernel) (by simp only [permL, List.getElem?_cons_succ, List.getElem?_cons_zero]; rfl) ?_)
    repeat (first|refine zC rfl ?_|refine zD rfl ?_|refine zE rfl ?_|refine zF rfl ?_)
    (refine Rg.front 10 ?_; refine Rg.front 9 ?_; refine Rg.front 9 ?_; refine Rg.front 9 ?_; refine Rg.front 9 ?_; refine Rg.front 9 ?_; refine Rg.front 9 ?_; refine Rg.front 9 ?_; refine Rg.front 9 ?_; refine Rg.front 9 ?_; refine Rg.front 10 ?_)
    refine rg_callE rfl (Taken_bg x S B _ hok (by omega)) ?_
    refine ⟨.inr (by (repeat' first | exact trivial | refine ⟨.inr ⟨_, _, _, _, Find.mem, rfl⟩, ?_⟩ | refine ⟨.inr ⟨_, _, _, _, Find.mem, inferInstance⟩, ?_⟩ | refine ⟨.inr ⟨_, Find.mem⟩, ?_⟩ | refine ⟨.inl (by decide +kernel), ?_⟩)), ?_⟩
    repeat (first|refine zB rfl rfl rfl ?_|refine zG rfl ?_|refine zQ ?_)
    simp only [eq_self, decide_true]
    skip
    (refine Ex.front 10 ?_; refine Ex.front 10 ?_; refine Ex.front 10 ?_; refine Ex.front 10 ?_; refine Ex.front 10 ?_; refine Ex.front 10 ?_; refine Ex.front 10 ?_; refine Ex.front 7 ?_; refine Ex.front 10 ?_; refine Ex.front 10 ?_; refine Ex.front 10 ?_)
    refine Ex.ent (EntR.e (mod_fold (S := S) c0 c1 rfl)) ?_
    (refine Ex.front 8 ?_; refine Ex.front 1 ?_; refine Ex.front 2 ?_; refine Ex.front 8 ?_; refine Ex.front 8 ?_; refine Ex.front 8 ?_; refine Ex.front 8 ?_; refine Ex.front 8 ?_; refine Ex.front 8 ?_)
    exact ex_rete ret Try.func38 rfl (Ent.drop (Ent.drop (Ent.refl _))) ⟨rfl, fin S (hok.mono (Nat.le_succ B)) hhas⟩
  have k7 := of_decide_eq_false k7
  repeat (first|refine zB rfl rfl rfl ?_|refine zG rfl ?_|refine zQ ?_|refine zR ?_|refine zS ?_)
  refine ex_cond_split rfl (fun k8 => ?_) (fun k8 => ?_)
  · exact absurd (of_decide_eq_true k8) hk
  repeat (first|refine zG rfl ?_|refine zQ ?_|refine zR ?_|refine zS ?_|refine yB ?_|refine yD ?_)
  exact ex_rete ret Try.func38 rfl (Ent.drop (Ent.drop (Ent.refl _))) ⟨rfl, fin S (hok.mono (Nat.le_succ B)) hhas⟩

end Go.Br
