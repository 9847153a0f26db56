/-
  Lemmas towards the law, proved without conditions of their own: PARTED: the statement's function: steps of both chains at the same time, and one behind the other.
-/
import Derived.Test.YtedaknlacigbhaaPk28
namespace Go.Lx
open Go
section
variable {P : Program} {X : Tgt} {b : Base} {n : Nat} {dr : Bool} {ops : Array Oper} {lo : Nat} {ex : List Nat} {fl : Floats} {E : Env} {rem : List Oper} {k : List Item} {cs : List Frame} {Γ : List Ch}
variable {d : Nat} {T : TypeId} {pos : String} {af : Array Edge} {gd : Option (Nat × Bool)}

theorem rg_neqBool {t t' : TypeId} {x y : Operand} {u v : Bool} [uu : Under P t .bool] (hx : Env.val E x = some (.bool u)) (hy : Env.val E y = some (.bool v))
    (e : Rg P X b n dr ops (lo + 1) ex fl ((d, .bool (!(u == v))) :: E) rem k cs Γ)
    (hdn : d < n := by decide) (hex : NotYet ex lo := trivial) (hg : GuardOK ops ⟨some d, .binOp .neq t x y t', T, pos, af, gd⟩ E := by first | exact trivial | exact ⟨_, rfl, rfl⟩) :
    Rg P X b n dr ops lo ex fl E (⟨some d, .binOp .neq t x y t', T, pos, af, gd⟩ :: rem) k cs Γ :=
  rg_pure rfl hdn hex rfl hg (fun _ ρ h hρ _ => by
    have h1 := hρ x (by simp [Op.operands]) _ hx
    have h2 := hρ y (by simp [Op.operands]) _ hy
    simp only [execOp, wpE_bind', h1, h2]
    refine wpE_eqGuard_bool ?_
    show wpE P (do pure (Value.bool (!(← Op.equalIn (9999 + 1) t (.bool u) (.bool v))))) _ h
    rw [wpE_bind']
    exact wpE_eqBool ⟨rfl, rfl⟩) e
end
end Go.Lx

namespace Go.Br
open Go Go.Lx Go.Proofs
open Go.Lx renaming rg_move → zA, rg_int → zB, rg_nilCheck → zC, rg_fieldAddr0 → zD, rg_fieldAddr → zE, rg_load → zF, rg_assign → zG, rg_loadAgg → zH, rg_extract → zI, rg_not → zJ, rg_pick → zK, rg_off → zL, rg_offU → zM, rg_store → zN, rg_storeAgg → zO, rg_convInt → zP, rg_done → zQ, ex_seq → zR, rg_start_s → zS, rg_start_d → zT, ex_cond_true → zU, ex_cond_false → zV, rg_alloc → zW, rg_boxAgg → zX, rg_build → zY, rg_lenSl → zZ, rg_lenMap → yA, ex_skip → yB, ex_block → yC, ex_inBlock → yD, ex_exit → yE, rg_caseG → yZ
set_option maxRecDepth 100000

set_option maxHeartbeats 16000000 in
theorem parted_ok {X : Tgt} (hX : Co Try.prog X) (m sa sb : ByteArray) (Γ : List Ch) :
    CallsA Try.prog X 10 #[.string m, .string sa, .string sb] Γ (fun v _ => v = .bool true) := by
  refine calls_of_bodyA (args := [.string m, .string sa, .string sb]) Try.func10 rfl Try.ntmps10 fun cs ret => ?_
  repeat (first|refine zA rfl ?_|refine zG rfl ?_|refine zQ ?_|refine zR ?_|refine zS ?_)
  refine rg_lenStr rfl ?_
  repeat (first|refine zA rfl ?_|refine zB rfl rfl rfl ?_)
  refine rg_caseG rfl rfl (fun g1 => ?_) (fun g1 => ?_)
  · repeat (first|refine zA rfl ?_|refine zG rfl ?_|refine zK rfl rfl ?_|refine zL rfl rfl rfl rfl (by decide) trivial rfl ?_|refine zQ ?_|refine zR ?_|refine zS ?_|refine zU rfl ?_)
    exact ex_retc ret Try.func10 rfl rfl
  have g1 := of_decide_eq_false g1
  repeat refine zA rfl ?_
  refine rg_lenStr rfl ?_
  repeat (first|refine zA rfl ?_|refine zB rfl rfl rfl ?_|refine zK rfl rfl ?_)
  refine rg_caseG rfl rfl (fun g2 => ?_) (fun g2 => ?_)
  · repeat (first|refine zG rfl ?_|refine zK rfl rfl ?_|refine zL rfl rfl rfl rfl (by decide) trivial rfl ?_|refine zQ ?_|refine zR ?_|refine zS ?_|refine zU rfl ?_)
    exact ex_retc ret Try.func10 rfl rfl
  have g2 := of_decide_eq_false g2
  repeat refine zA rfl ?_
  refine rg_lenStr rfl ?_
  repeat (first|refine zB rfl rfl rfl ?_|refine zK rfl rfl ?_|refine zQ ?_)
  refine ex_cond_split rfl (fun g3 => ?_) (fun g3 => ?_)
  · repeat (first|refine zG rfl ?_|refine zQ ?_|refine zR ?_|refine zS ?_)
    exact ex_retc ret Try.func10 rfl rfl
  have g3 := of_decide_eq_false g3
  repeat (first|refine zA rfl ?_|refine zR ?_|refine zS ?_|refine yB ?_)
  refine rg_call rfl (playD_ok m Γ (by omega)) ?_
  rintro _ D ⟨w1, ra0, ra1, rfl, kA, hE⟩
  refine ⟨.inl rfl, Rg.ent hE ?_⟩
  repeat (first|refine zA rfl ?_|refine zG rfl ?_|refine zI rfl rfl ?_|refine zQ ?_|refine zR ?_|refine zS ?_)
  refine rg_call rfl (playD_ok m _ (by omega)) ?_
  rintro _ D ⟨w2, rb0, rb1, rfl, kB, hE⟩
  refine ⟨.inl rfl, Rg.ent hE ?_⟩
  have hok := kA.ok
  generalize plS m (m.size / 4) = S at *
  repeat (first|refine zA rfl ?_|refine zG rfl ?_|refine zI rfl rfl ?_|refine zQ ?_|refine zR ?_)
  refine Ex.open_ kw_open fun z _ => ?_
  obtain ⟨b2, v2⟩ := z
  dsimp only [kwL]
  (refine Ex.front 7 ?_; refine Ex.front 1 ?_; refine Ex.front 8 ?_; refine Ex.front 8 ?_; refine Ex.front 8 ?_; refine Ex.front 8 ?_; refine Ex.front 8 ?_; refine Ex.front 8 ?_; refine Ex.front 8 ?_)
  refine Ex.drop (Ex.drop (Ex.drop (Ex.drop (Ex.drop (Ex.drop ?_)))))
  refine Ex.open_ kw_open fun z _ => ?_
  obtain ⟨b1, v1⟩ := z
  dsimp only [kwL]
  (refine Ex.front 8 ?_; refine Ex.front 1 ?_; refine Ex.front 8 ?_; refine Ex.front 9 ?_; refine Ex.front 9 ?_; refine Ex.front 9 ?_; refine Ex.front 9 ?_; refine Ex.front 9 ?_; refine Ex.front 9 ?_; refine Ex.front 9 ?_)
  refine Ex.drop (Ex.drop (Ex.drop (Ex.drop (Ex.drop (Ex.drop ?_)))))
  have hr0 := ltB (nrecvB hok.ok0) (by decide)
  have hr1 := ltB (nrecvB hok.ok1) (by decide)
  have hh0 := ltB hok.ok0.hd.height (by decide)
  have hh1 := ltB hok.ok1.hd.height (by decide)
  repeat (first|refine zA rfl ?_|refine zC rfl ?_|refine zD rfl ?_|refine zF rfl ?_|refine zJ rfl ?_|refine zK rfl rfl ?_|refine zQ ?_|refine zR ?_|refine zS ?_|refine zV rfl ?_|refine yB ?_)
  refine rg_call rfl (Look0_bg b2 S 30000 _ hok (by decide)) ?_
  rintro _ D1 ⟨la0, lc0, rfl, hE1⟩
  refine ⟨.inl rfl, Rg.ent hE1 ?_⟩
  unfold lookL
  repeat (first|refine zA rfl ?_|refine zC rfl ?_|refine zD rfl ?_|refine zF rfl ?_|refine zG rfl ?_|refine zI rfl rfl ?_|refine zO rfl rfl ?_|refine zQ ?_|refine zR ?_|refine zS ?_|refine zW fun bl=>?_)
  (refine Rg.front 1 ?_; refine Rg.front 1 ?_; refine Rg.front 5 ?_; refine Rg.front 5 ?_; refine Rg.front 5 ?_; refine Rg.front 5 ?_)
  rename_i l0
  refine rg_call rfl (Look1_bg b2 S 30000 _ hok (by decide)) ?_
  rintro _ D2 ⟨la1, lc1, rfl, hE2⟩
  refine ⟨.inl rfl, Rg.ent hE2 ?_⟩
  unfold lookL
  repeat (first|refine zA rfl ?_|refine zB rfl rfl rfl ?_|refine zD rfl ?_|refine zF rfl ?_|refine zG rfl ?_|refine zH rfl ?_|refine zI rfl rfl ?_|refine zK rfl rfl ?_|refine zO rfl rfl ?_|refine zQ ?_|refine zR ?_|refine zS ?_|refine zV rfl ?_|refine zW fun bl=>?_|refine yB ?_)
  refine rg_call rfl (steps_ok sa (lookL S.s0 (knOf S.s0 S.s1) (.slice la0 S.s0.hd.packets.length lc0)) S.s1.hd.height S.s0.hd.nrecv _ (by omega) rfl rfl hr0 hh1) ?_
  rintro _ D3 ⟨va, ca, xs, rfl, hxl, hxs, hE3⟩
  refine ⟨.inl rfl, Rg.ent hE3 ?_⟩
  repeat (first|refine zA rfl ?_|refine zD rfl ?_|refine zF rfl ?_|refine zG rfl ?_|refine zH rfl ?_|refine zQ ?_|refine zR ?_|refine zS ?_)
  refine rg_call rfl (steps_ok sb (lookL S.s1 (knOf S.s1 S.s0) (.slice la1 S.s1.hd.packets.length lc1)) S.s0.hd.height S.s1.hd.nrecv _ (by omega) rfl rfl hr1 hh0) ?_
  rintro _ D4 ⟨vb, cb, ys, rfl, hyl, hys, hE4⟩
  refine ⟨.inl rfl, Rg.ent hE4 ?_⟩
  repeat (first|refine zG rfl ?_|refine zQ ?_|refine zR ?_)
  (refine Ex.front 7 ?_; refine Ex.front 7 ?_; refine Ex.front 7 ?_; refine Ex.front 7 ?_; refine Ex.front 5 ?_; refine Ex.front 5 ?_; refine Ex.front 9 ?_; refine Ex.front 9 ?_; refine Ex.front 9 ?_; refine Ex.front 9 ?_)
  refine Ex.drop (Ex.drop (Ex.drop (Ex.drop ?_)))
  refine Ex.ent (Ent.dup (pers_stepsAt _ _)) ?_
  (refine Ex.front 1 ?_; refine Ex.front 1 ?_; refine Ex.front 2 ?_)
  refine Ex.ent (Ent.dup (pers_stepsAt _ _)) ?_
  (refine Ex.front 4 ?_; refine Ex.front 4 ?_; refine Ex.front 3 ?_; refine Ex.front 4 ?_; refine Ex.front 4 ?_; refine Ex.front 5 ?_)
  refine Ex.sup (E' := [(16, .slice vb ys.length cb), (15, .slice va xs.length ca), (9, ptrV w2), (7, ptrV w1)]) ?_ ⟨rfl, rfl, rfl, rfl, trivial⟩
  have g1 := heads_len hok.ok1 (by decide)
  obtain ⟨_, _, ⟨lh, hlh⟩, _⟩ := rEnd_facts (heads_len hok.ok0 (by decide)) ys S.s1 hok.ok1 hok.k1 (by omega) (fun x h => (hys x h).1.1)
  have n0 := rCodes_len S.s1 xs S.s0
  have n1 := rCodes_len S.s0 ys S.s1
  repeat (first|refine zA rfl ?_|refine zC rfl ?_|refine zD rfl ?_|refine zF rfl ?_|refine zS ?_)
  refine rg_callA rfl (Run_bg hX b1 S va vb ca cb xs ys 30000 _ hok (by omega) (by omega) (fun x h => (hxs x h).1) (fun x h => (hys x h).1)) ?_
  rintro _ D5 ⟨ra, rb, rfl, hE5⟩
  refine ⟨.inl rfl, Rg.ent hE5 ?_⟩
  repeat (first|refine zA rfl ?_|refine zG rfl ?_|refine zI rfl rfl ?_|refine zQ ?_|refine zR ?_)
  (refine Ex.front 1 ?_)
  refine Ex.open_ (slp_shapeO (p := true)) fun z hz => ?_
  obtain ⟨aa, ac⟩ := z
  dsimp only at hz
  subst hz
  (refine Ex.front 2 ?_)
  refine Ex.open_ (slp_shapeO (p := true)) fun z hz => ?_
  obtain ⟨ab, ad⟩ := z
  dsimp only at hz
  subst hz
  rw [n0, n1]
  repeat (first|refine zA rfl ?_|refine zB rfl rfl rfl ?_|refine zS ?_|refine zZ rfl ?_)
  simp only [eq_self, decide_true]
  repeat (first|refine zA rfl ?_|refine zB rfl rfl rfl ?_|refine zK rfl rfl ?_|refine zQ ?_|refine zZ rfl ?_)
  simp only [eq_self, decide_true]
  repeat (first|refine zA rfl ?_|refine zQ ?_|refine zR ?_|refine zS ?_|refine zV rfl ?_|refine zZ rfl ?_|refine yB ?_|refine yC ?_)
  (refine Ex.front 2 ?_; refine Ex.front 3 ?_; refine Ex.front 3 ?_; refine Ex.front 4 ?_; refine Ex.front 4 ?_; refine Ex.front 5 ?_)
  refine Ex.sup (E' := [(119, .int .i64 0), (118, .int .i64 ys.length), (117, .slice vb ys.length cb), (18, .slice ab ys.length ad), (17, .slice aa xs.length ac), (16, .slice vb ys.length cb), (15, .slice va xs.length ca), (9, ptrV w2), (7, ptrV w1)]) ?_ ⟨rfl, rfl, rfl, rfl, rfl, rfl, rfl, rfl, rfl, trivial⟩
  refine ex_loop ?_
  refine ex_ind (ι := List Stp × List Stp × Bg) (fun i => i.2.1.length)
    (fun i => [(119, .int .i64 i.1.length), (118, .int .i64 ys.length), (117, .slice vb ys.length cb), (18, .slice ab ys.length ad), (17, .slice aa xs.length ac), (16, .slice vb ys.length cb), (15, .slice va xs.length ca), (9, ptrV w2), (7, ptrV w1)])
    (fun i => .pr (BgAt b2 i.2.2) :: .pr (SlV 22 1 (.slice ab ys.length ad) ((rCodes S.s0 S.s1 ys).map eV) ys.length) :: .pr (StepsAt (.slice vb ys.length cb) ys) :: .pr (SlV 22 1 (.slice aa xs.length ac) ((rCodes S.s1 S.s0 xs).map eV) xs.length) :: .pr (StepsAt (.slice va xs.length ca) xs) :: .pr (BgAt b1 (bgRun S xs ys)) :: kwC w1 b1 v1 :: kwC w2 b2 v2 :: Γ)
    (fun i => ys = i.1 ++ i.2.1 ∧ P1 S ys i.2.2 i.1.length i.2.1 ∧ BgOk (30000 + i.1.length) i.2.2) ([], ys, S) ⟨rfl, P1.init S ys, hok⟩ ⟨rfl, rfl, rfl, rfl, rfl, rfl, rfl, rfl, rfl, trivial⟩ rfl ?_
  rintro ⟨pre, rest, T⟩ ⟨hpre, j, hokT⟩ IH
  dsimp only at hpre j hokT IH ⊢
  repeat (first|refine zB rfl rfl rfl ?_|refine zQ ?_|refine zR ?_|refine zS ?_)
  rcases rest with _ | ⟨y0, rest⟩
  rotate_left
  · have hlen : ys.length = pre.length + (rest.length + 1) := by rw [hpre]; simp
    have hxi : ys[pre.length]? = some y0 := by rw [hpre]; simp
    have hxb := hys y0 (List.mem_of_getElem? hxi)
    obtain ⟨hc, j'⟩ := j.step
    have q1 := bgStep_keeps hokT (by omega) 1 y0 hxb.1.1 _ (Nat.le_refl _)
    (refine Ex.front 2 ?_)
    refine Ex.open_ (steps_open hxi) fun y hy => ?_
    obtain ⟨rfl, hyy⟩ := hy
    haveI := hyy _ _ hxi
    (refine Ex.front 2 ?_)
    refine ex_slp (p := true) (fun _ _ h => absurd h (by omega)) (fun bz cap slack hs hz => ?_)
    simp only [Value.slice.injEq, true_and] at hs
    obtain ⟨rfl, rfl⟩ := hs
    have hg : ((rCodes S.s0 S.s1 ys).map eV ++ slack)[pre.length]? = some (eV (bgDo T 1 y0).2.2) := by rw [List.getElem?_append_left (by rw [List.length_map]; omega), List.getElem?_map, hc]; rfl
    refine ex_cond_split rfl (fun h1 => ?_) (fun h1 => absurd (of_decide_eq_false h1) (by omega))
    repeat (first|refine zA rfl ?_|refine zR ?_|refine zS ?_|refine yB ?_|refine yC ?_)
    refine rg_indexSl rfl rfl ⟨by omega, by omega⟩ ?_
    rw [Int.toNat_natCast]
    repeat (first|refine zA rfl ?_|refine zC rfl ?_|refine zD rfl ?_|refine zF rfl ?_|refine zG rfl ?_|refine zH rfl ?_|refine zO rfl rfl ?_|refine zQ ?_|refine zR ?_|refine zT (by decide+kernel) (by decide+kernel) ?_|refine zW fun bl=>?_)
    (refine Rg.front 2 ?_; refine Rg.front 2 ?_; refine Rg.front 2 ?_; refine Rg.front 3 ?_)
    refine rg_callE rfl (Do_bg b2 T 1 y0 _ _ hokT (by omega) hxb.1) ?_
    refine ⟨.inr (by (repeat' first | exact trivial | refine ⟨.inr ⟨_, _, _, _, Find.mem, rfl⟩, ?_⟩ | refine ⟨.inr ⟨_, _, _, _, Find.mem, inferInstance⟩, ?_⟩ | refine ⟨.inr ⟨_, Find.mem⟩, ?_⟩ | refine ⟨.inl (by decide +kernel), ?_⟩)), ?_⟩
    change BgOk _ (bgDo T 1 y0).1 at q1
    generalize bgDo T 1 y0 = r at *
    repeat (first|refine zA rfl ?_|refine zG rfl ?_|refine zI rfl rfl ?_|refine zQ ?_|refine zR ?_|refine zS ?_)
    refine rg_indexSl rfl rfl ⟨by omega, by omega⟩ ?_
    rw [Int.toNat_natCast, Nat.zero_add (pre.length * 1), Nat.mul_one]
    refine rg_load rfl ?_ hg
    repeat (first|refine zB rfl rfl rfl ?_|refine zQ ?_)
    simp only [eq_self, decide_true]
    repeat (first|refine zA rfl ?_|refine zB rfl rfl rfl ?_|refine zQ ?_|refine zS ?_|refine zV rfl ?_|refine yB ?_|refine yD ?_)
    (refine Ex.front 3 ?_; refine Ex.front 1 ?_; refine Ex.front 3 ?_; refine Ex.front 3 ?_)
    refine Ex.drop (Ex.ent (EntR.e (slp_fold bz ad slack hz)) ?_)
    (refine Ex.front 0 ?_; refine Ex.front 1 ?_; refine Ex.front 2 ?_)
    refine Ex.ent (EntR.e (steps_fold (c := cb) y hyy)) ?_
    (refine Ex.front 0 ?_; refine Ex.front 2 ?_; refine Ex.front 2 ?_)
    refine ex_inLoop ?_
    rw [rwrap (x := (pre.length : Int) + 1) (by omega)]
    have IH' := IH (pre ++ [y0], rest, r.1) ⟨by rw [hpre]; simp, by simpa using j', by simpa [Nat.add_assoc] using q1⟩ (by simp)
    dsimp only at IH'
    rw [show ((pre ++ [y0]).length : Int) = pre.length + 1 by simp] at IH'
    exact Ex.sup IH' ⟨rfl, rfl, rfl, rfl, rfl, rfl, rfl, rfl, rfl, trivial⟩
  have hlen1 : ys.length = pre.length := by rw [hpre]; simp
  refine ex_cond_split rfl (fun h1 => absurd (of_decide_eq_true h1) (by omega)) (fun h1 => ?_)
  repeat (first|refine zA rfl ?_|refine zQ ?_|refine zR ?_|refine zS ?_|refine zZ rfl ?_|refine yC ?_|refine yE rfl ?_)
  (refine Ex.front 2 ?_; refine Ex.front 2 ?_; refine Ex.front 4 ?_; refine Ex.front 4 ?_; refine Ex.front 4 ?_)
  refine Ex.sup (E' := [(142, .int .i64 0), (141, .int .i64 xs.length), (140, .slice va xs.length ca), (18, .slice ab ys.length ad), (17, .slice aa xs.length ac), (16, .slice vb ys.length cb), (15, .slice va xs.length ca), (9, ptrV w2), (7, ptrV w1)]) ?_ ⟨rfl, rfl, rfl, rfl, rfl, rfl, rfl, rfl, rfl, trivial⟩
  refine ex_loop ?_
  refine ex_ind (ι := List Stp × List Stp × Bg) (fun i => i.2.1.length)
    (fun i => [(142, .int .i64 i.1.length), (141, .int .i64 xs.length), (140, .slice va xs.length ca), (18, .slice ab ys.length ad), (17, .slice aa xs.length ac), (16, .slice vb ys.length cb), (15, .slice va xs.length ca), (9, ptrV w2), (7, ptrV w1)])
    (fun i => .pr (BgAt b2 i.2.2) :: .pr (SlV 22 1 (.slice aa xs.length ac) ((rCodes S.s1 S.s0 xs).map eV) xs.length) :: .pr (StepsAt (.slice va xs.length ca) xs) :: .pr (SlV 22 1 (.slice ab ys.length ad) ((rCodes S.s0 S.s1 ys).map eV) ys.length) :: .pr (StepsAt (.slice vb ys.length cb) ys) :: .pr (BgAt b1 (bgRun S xs ys)) :: kwC w1 b1 v1 :: kwC w2 b2 v2 :: Γ)
    (fun i => xs = i.1 ++ i.2.1 ∧ P0 S xs ys i.2.2 i.1.length i.2.1 ∧ BgOk ((30000 + pre.length) + i.1.length) i.2.2) ([], xs, T) ⟨rfl, j.fin xs hok.k0, hokT⟩ ⟨rfl, rfl, rfl, rfl, rfl, rfl, rfl, rfl, rfl, trivial⟩ rfl ?_
  clear IH j
  rintro ⟨pre2, rest, T2⟩ ⟨hpre2, j, hokU⟩ IH
  dsimp only at hpre2 j hokU IH ⊢
  repeat (first|refine zB rfl rfl rfl ?_|refine zQ ?_|refine zR ?_|refine zS ?_)
  rcases rest with _ | ⟨y0, rest⟩
  rotate_left
  · have hlen : xs.length = pre2.length + (rest.length + 1) := by rw [hpre2]; simp
    have hxi : xs[pre2.length]? = some y0 := by rw [hpre2]; simp
    have hxb := hxs y0 (List.mem_of_getElem? hxi)
    have hk3 : y0.kind = 3 → y0.n < S.s1.heads.length := fun e => by rw [hxb.2 e]; have := hok.ok1.len; omega
    obtain ⟨hc, j'⟩ := j.step hlh hk3
    have q1 := bgStep_keeps hokU (by omega) 0 y0 hxb.1.1 _ (Nat.le_refl _)
    (refine Ex.front 2 ?_)
    refine Ex.open_ (steps_open hxi) fun y hy => ?_
    obtain ⟨rfl, hyy⟩ := hy
    haveI := hyy _ _ hxi
    (refine Ex.front 2 ?_)
    refine ex_slp (p := true) (fun _ _ h => absurd h (by omega)) (fun bz cap slack hs hz => ?_)
    simp only [Value.slice.injEq, true_and] at hs
    obtain ⟨rfl, rfl⟩ := hs
    have hg : ((rCodes S.s1 S.s0 xs).map eV ++ slack)[pre2.length]? = some (eV (bgDo T2 0 y0).2.2) := by rw [List.getElem?_append_left (by rw [List.length_map]; omega), List.getElem?_map, hc]; rfl
    refine ex_cond_split rfl (fun h1 => ?_) (fun h1 => absurd (of_decide_eq_false h1) (by omega))
    repeat (first|refine zA rfl ?_|refine zR ?_|refine zS ?_|refine yB ?_|refine yC ?_)
    refine rg_indexSl rfl rfl ⟨by omega, by omega⟩ ?_
    rw [Int.toNat_natCast]
    repeat (first|refine zA rfl ?_|refine zC rfl ?_|refine zD rfl ?_|refine zF rfl ?_|refine zG rfl ?_|refine zH rfl ?_|refine zO rfl rfl ?_|refine zQ ?_|refine zR ?_|refine zT (by decide+kernel) (by decide+kernel) ?_|refine zW fun bl=>?_)
    (refine Rg.front 2 ?_; refine Rg.front 2 ?_; refine Rg.front 2 ?_; refine Rg.front 3 ?_)
    refine rg_callE rfl (Do_bg b2 T2 0 y0 _ _ hokU (by omega) hxb.1) ?_
    refine ⟨.inr (by (repeat' first | exact trivial | refine ⟨.inr ⟨_, _, _, _, Find.mem, rfl⟩, ?_⟩ | refine ⟨.inr ⟨_, _, _, _, Find.mem, inferInstance⟩, ?_⟩ | refine ⟨.inr ⟨_, Find.mem⟩, ?_⟩ | refine ⟨.inl (by decide +kernel), ?_⟩)), ?_⟩
    change BgOk _ (bgDo T2 0 y0).1 at q1
    generalize bgDo T2 0 y0 = r at *
    repeat (first|refine zA rfl ?_|refine zG rfl ?_|refine zI rfl rfl ?_|refine zQ ?_|refine zR ?_|refine zS ?_)
    refine rg_indexSl rfl rfl ⟨by omega, by omega⟩ ?_
    rw [Int.toNat_natCast, Nat.zero_add (pre2.length * 1), Nat.mul_one]
    refine rg_load rfl ?_ hg
    repeat (first|refine zB rfl rfl rfl ?_|refine zQ ?_)
    simp only [eq_self, decide_true]
    repeat (first|refine zA rfl ?_|refine zB rfl rfl rfl ?_|refine zQ ?_|refine zS ?_|refine zV rfl ?_|refine yB ?_|refine yD ?_)
    (refine Ex.front 3 ?_; refine Ex.front 1 ?_; refine Ex.front 3 ?_; refine Ex.front 3 ?_)
    refine Ex.drop (Ex.ent (EntR.e (slp_fold bz ac slack hz)) ?_)
    (refine Ex.front 0 ?_; refine Ex.front 1 ?_; refine Ex.front 2 ?_)
    refine Ex.ent (EntR.e (steps_fold (c := ca) y hyy)) ?_
    (refine Ex.front 0 ?_; refine Ex.front 2 ?_; refine Ex.front 2 ?_)
    refine ex_inLoop ?_
    rw [rwrap (x := (pre2.length : Int) + 1) (by omega)]
    have IH' := IH (pre2 ++ [y0], rest, r.1) ⟨by rw [hpre2]; simp, by simpa using j', by simpa [Nat.add_assoc] using q1⟩ (by simp)
    dsimp only at IH'
    rw [show ((pre2 ++ [y0]).length : Int) = pre2.length + 1 by simp] at IH'
    exact Ex.sup IH' ⟨rfl, rfl, rfl, rfl, rfl, rfl, rfl, rfl, rfl, trivial⟩
  have hlen0 : xs.length = pre2.length := by rw [hpre2]; simp
  refine ex_cond_split rfl (fun h1 => absurd (of_decide_eq_true h1) (by omega)) (fun h1 => ?_)
  repeat (first|refine zA rfl ?_|refine zQ ?_|refine zR ?_|refine zS ?_|refine yC ?_|refine yE rfl ?_)
  have hT := j.fin
  subst hT
  have hR : BgOk 40000 (bgRun S xs ys) := hokU.mono (by omega)
  generalize bgRun S xs ys = R at *
  (refine Ex.front 0 ?_; refine Ex.front 5 ?_; refine Ex.front 5 ?_; refine Ex.front 5 ?_; refine Ex.front 5 ?_; refine Ex.front 5 ?_)
  refine Ex.drop (Ex.drop (Ex.drop (Ex.drop ?_)))
  refine Ex.sup (E' := [(163, .int .i64 0), (9, ptrV w2), (7, ptrV w1)]) ?_ ⟨rfl, rfl, rfl, trivial⟩
  refine ex_loop ?_
  refine ex_ind (ι := Nat) (fun c => 2 - c) (fun c => [(163, .int .i64 (c : Int)), (9, ptrV w2), (7, ptrV w1)]) (fun _ => .pr (BgAt b1 R) :: .pr (BgAt b2 R) :: kwC w1 b1 v1 :: kwC w2 b2 v2 :: Γ) (fun c => c ≤ 2) 0 (by decide) ⟨rfl, rfl, rfl, trivial⟩ rfl ?_
  intro c hc IHc
  repeat (first|refine zB rfl rfl rfl ?_|refine zQ ?_|refine zR ?_|refine zS ?_)
  refine ex_cond_split rfl (fun h1 => ?_) (fun h1 => ?_)
  · have h1 := of_decide_eq_true h1
    have hc2 : (c : Int) = 0 ∨ (c : Int) = 1 := by omega
    repeat (first|refine zA rfl ?_|refine zG rfl ?_|refine zQ ?_|refine zR ?_|refine zS ?_|refine yB ?_|refine yC ?_)
    refine Ex.sup (E' := [(166, .int .i64 0), (27, .int .i64 (c : Int)), (163, .int .i64 (c : Int)), (9, ptrV w2), (7, ptrV w1)]) ?_ ⟨rfl, rfl, rfl, rfl, rfl, trivial⟩
    refine ex_loop ?_
    refine ex_ind (ι := Nat) (fun u => 3 - u) (fun u => [(166, .int .i64 (u : Int)), (27, .int .i64 (c : Int)), (163, .int .i64 (c : Int)), (9, ptrV w2), (7, ptrV w1)]) (fun _ => .pr (BgAt b1 R) :: .pr (BgAt b2 R) :: kwC w1 b1 v1 :: kwC w2 b2 v2 :: Γ) (fun u => u ≤ 3) 0 (by decide) ⟨rfl, rfl, rfl, rfl, rfl, trivial⟩ rfl ?_
    intro u hu IHu
    repeat (first|refine zB rfl rfl rfl ?_|refine zQ ?_|refine zR ?_|refine zS ?_)
    refine ex_cond_split rfl (fun h2 => ?_) (fun h2 => ?_)
    · have h2 := of_decide_eq_true h2
      repeat (first|refine zA rfl ?_|refine zG rfl ?_|refine zQ ?_|refine zR ?_|refine zS ?_|refine yB ?_|refine yC ?_)
      refine Ex.sup (E' := [(169, .int .i64 0), (28, .int .i64 (u : Int)), (166, .int .i64 (u : Int)), (27, .int .i64 (c : Int)), (163, .int .i64 (c : Int)), (9, ptrV w2), (7, ptrV w1)]) ?_ ⟨rfl, rfl, rfl, rfl, rfl, rfl, rfl, trivial⟩
      refine ex_loop ?_
      refine ex_ind (ι := Nat) (fun co => 2 - co) (fun co => [(169, .int .i64 (co : Int)), (28, .int .i64 (u : Int)), (166, .int .i64 (u : Int)), (27, .int .i64 (c : Int)), (163, .int .i64 (c : Int)), (9, ptrV w2), (7, ptrV w1)]) (fun _ => .pr (BgAt b1 R) :: .pr (BgAt b2 R) :: kwC w1 b1 v1 :: kwC w2 b2 v2 :: Γ) (fun co => co ≤ 2) 0 (by decide) ⟨rfl, rfl, rfl, rfl, rfl, rfl, rfl, trivial⟩ rfl ?_
      intro co hco IHo
      repeat (first|refine zB rfl rfl rfl ?_|refine zQ ?_|refine zR ?_|refine zS ?_)
      refine ex_cond_split rfl (fun h3 => ?_) (fun h3 => ?_)
      · have h3 := of_decide_eq_true h3
        repeat (first|refine zR ?_|refine yB ?_|refine yC ?_)
        refine rg_start_s ?_
        repeat (first|refine zA rfl ?_|refine zG rfl ?_|refine zQ ?_|refine zR ?_)
        (refine rg_start_p [0, 1, 2, 3, 4, 5, 6, 8, 9, 10, 11, 12, 13, 14, 7, 15, 16] (by decide +kernel) (by decide +kernel) (by simp only [permL, List.getElem?_cons_succ, List.getElem?_cons_zero]; rfl) ?_)
        repeat (first|refine zA rfl ?_|refine zC rfl ?_|refine zD rfl ?_|refine zF rfl ?_)
        refine rg_callE rfl (Balance_bg b1 R (c : Int) (u : Int) (co : Int) 40000 _ hR (by decide)) ?_
        refine ⟨.inr (by (repeat' first | exact trivial | refine ⟨.inr ⟨_, _, _, _, Find.mem, rfl⟩, ?_⟩ | refine ⟨.inr ⟨_, _, _, _, Find.mem, inferInstance⟩, ?_⟩ | refine ⟨.inr ⟨_, Find.mem⟩, ?_⟩ | refine ⟨.inl (by decide +kernel), ?_⟩)), ?_⟩
        skip
        (refine Rg.front 0 ?_; refine Rg.front 1 ?_)
        refine rg_callE rfl (Balance_bg b2 R (c : Int) (u : Int) (co : Int) 40000 _ hR (by decide)) ?_
        refine ⟨.inr (by (repeat' first | exact trivial | refine ⟨.inr ⟨_, _, _, _, Find.mem, rfl⟩, ?_⟩ | refine ⟨.inr ⟨_, _, _, _, Find.mem, inferInstance⟩, ?_⟩ | refine ⟨.inr ⟨_, Find.mem⟩, ?_⟩ | refine ⟨.inl (by decide +kernel), ?_⟩)), ?_⟩
        repeat (first|refine zB rfl rfl rfl ?_|refine zQ ?_)
        simp only [eq_self, decide_true]
        repeat (first|refine zA rfl ?_|refine zB rfl rfl rfl ?_|refine zQ ?_|refine zS ?_|refine zV rfl ?_|refine yB ?_|refine yD ?_)
        (refine Ex.front 0 ?_; refine Ex.front 1 ?_)
        refine ex_inLoop ?_
        rw [rwrap (x := (co : Int) + 1) (by omega)]
        exact Ex.sup (IHo (co + 1) (by show co + 1 ≤ 2; omega) (by show 2 - (co + 1) < 2 - co; omega)) ⟨rfl, rfl, rfl, rfl, rfl, rfl, rfl, trivial⟩
      · repeat (first|refine zA rfl ?_|refine zB rfl rfl rfl ?_|refine zQ ?_|refine zS ?_|refine yD ?_|refine yE rfl ?_)
        refine ex_inLoop ?_
        rw [rwrap (x := (u : Int) + 1) (by omega)]
        exact Ex.sup (IHu (u + 1) (by show u + 1 ≤ 3; omega) (by show 3 - (u + 1) < 3 - u; omega)) ⟨rfl, rfl, rfl, rfl, rfl, trivial⟩
    · repeat (first|refine zA rfl ?_|refine zC rfl ?_|refine zD rfl ?_|refine zF rfl ?_|refine zR ?_|refine zS ?_|refine yE rfl ?_)
      refine rg_call rfl (LookC_bg b1 R (c : Int) 40000 _ hc2 hR (by decide)) ?_
      rintro _ D6 ⟨pa, pc, k1, rfl, hE6⟩
      refine ⟨.inl rfl, Rg.ent hE6 ?_⟩
      unfold lookL
      repeat (first|refine zA rfl ?_|refine zC rfl ?_|refine zD rfl ?_|refine zF rfl ?_|refine zG rfl ?_|refine zI rfl rfl ?_|refine zO rfl rfl ?_|refine zQ ?_|refine zR ?_|refine zS ?_|refine zW fun bl=>?_)
      (refine Rg.front 2 ?_; refine Rg.front 2 ?_; refine Rg.front 2 ?_; refine Rg.front 3 ?_)
      rename_i bp
      refine rg_call rfl (LookC_bg b2 R (c : Int) 40000 _ hc2 hR (by decide)) ?_
      rintro _ D7 ⟨qa, qc, k2, rfl, hE7⟩
      refine ⟨.inl rfl, Rg.ent hE7 ?_⟩
      unfold lookL
      repeat (first|refine zA rfl ?_|refine zB rfl rfl rfl ?_|refine zD rfl ?_|refine zF rfl ?_|refine zG rfl ?_|refine zI rfl rfl ?_|refine zK rfl rfl ?_|refine zO rfl rfl ?_|refine zQ ?_|refine zR ?_|refine zS ?_|refine zW fun bl=>?_)
      simp only [eq_self, decide_true]
      repeat (first|refine zA rfl ?_|refine zB rfl rfl rfl ?_|refine zE rfl ?_|refine zF rfl ?_|refine zK rfl rfl ?_)
      simp only [eq_self, decide_true]
      repeat (first|refine zE rfl ?_|refine zF rfl ?_)
      refine rg_neqBool rfl rfl ?_
      simp only [beq_self_eq_true]
      repeat (first|refine zA rfl ?_|refine zB rfl rfl rfl ?_|refine zE rfl ?_|refine zF rfl ?_|refine zK rfl rfl ?_)
      simp only [eq_self, decide_true]
      repeat (first|refine zA rfl ?_|refine zB rfl rfl rfl ?_|refine zE rfl ?_|refine zF rfl ?_|refine zK rfl rfl ?_)
      simp only [eq_self, decide_true]
      repeat (first|refine zB rfl rfl rfl ?_|refine zE rfl ?_|refine zF rfl ?_|refine zK rfl rfl ?_|refine zQ ?_|refine zZ rfl ?_)
      simp only [eq_self, decide_true]
      repeat (first|refine zA rfl ?_|refine zB rfl rfl rfl ?_|refine zQ ?_|refine zS ?_|refine zV rfl ?_|refine yB ?_|refine yD ?_)
      (refine Ex.front 2 ?_; refine Ex.front 5 ?_; refine Ex.front 5 ?_; refine Ex.front 5 ?_; refine Ex.front 5 ?_; refine Ex.front 5 ?_)
      refine Ex.drop (Ex.drop (Ex.drop (Ex.drop ?_)))
      refine ex_inLoop ?_
      rw [rwrap (x := (c : Int) + 1) (by omega)]
      exact Ex.sup (IHc (c + 1) (by show c + 1 ≤ 2; omega) (by show 2 - (c + 1) < 2 - c; omega)) ⟨rfl, rfl, rfl, trivial⟩
  · repeat (first|refine zR ?_|refine yE rfl ?_)
    (refine rg_start_p [0, 1, 2, 3, 5, 6, 7, 8, 4, 9, 10, 11] (by decide +kernel) (by decide +kernel) (by simp only [permL, List.getElem?_cons_succ, List.getElem?_cons_zero]; rfl) ?_)
    repeat (first|refine zA rfl ?_|refine zC rfl ?_|refine zD rfl ?_|refine zF rfl ?_)
    refine rg_callE rfl (Taken_bg b1 R 40000 _ hR (by decide)) ?_
    refine ⟨.inr (by (repeat' first | exact trivial | refine ⟨.inr ⟨_, _, _, _, Find.mem, rfl⟩, ?_⟩ | refine ⟨.inr ⟨_, _, _, _, Find.mem, inferInstance⟩, ?_⟩ | refine ⟨.inr ⟨_, Find.mem⟩, ?_⟩ | refine ⟨.inl (by decide +kernel), ?_⟩)), ?_⟩
    skip
    (refine Rg.front 0 ?_; refine Rg.front 1 ?_)
    refine rg_callE rfl (Taken_bg b2 R 40000 _ hR (by decide)) ?_
    refine ⟨.inr (by (repeat' first | exact trivial | refine ⟨.inr ⟨_, _, _, _, Find.mem, rfl⟩, ?_⟩ | refine ⟨.inr ⟨_, _, _, _, Find.mem, inferInstance⟩, ?_⟩ | refine ⟨.inr ⟨_, Find.mem⟩, ?_⟩ | refine ⟨.inl (by decide +kernel), ?_⟩)), ?_⟩
    repeat (first|refine zB rfl rfl rfl ?_|refine zG rfl ?_|refine zQ ?_)
    simp only [eq_self, decide_true]
    skip
    exact ex_retc ret Try.func10 rfl rfl
end Go.Br
