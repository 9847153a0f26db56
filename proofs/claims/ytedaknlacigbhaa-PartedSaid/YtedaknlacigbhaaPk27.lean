/-
  Lemmas towards the law, proved without conditions of their own: COMPANY, SIXTEENTH PART: Run. (Printed by wip/tools/gen_cxg.py.); COMPANY, SEVENTEENTH PART: from a contract at targets that take companies in to one good run from every start. No condition; COMPANY, EIGHTEENTH PART: Run over the abstract bridge.
-/
import Derived.Test.YtedaknlacigbhaaPk26
import Derived.Test.YtedaknlacigbhaaPk24
import Derived.Test.YtedaknlacigbhaaPk11
import Derived.Conc.LeavingOf
import Derived.Conc.CrowdStepC
namespace Go.Br
open Go Go.Lx Go.Proofs
open Go.Lx renaming rg_move → zA, rg_int → zB, rg_nilCheck → zC, rg_fieldAddr0 → zD, rg_fieldAddr → zE, rg_load → zF, rg_assign → zG, rg_loadAgg → zH, rg_extract → zI, rg_not → zJ, rg_pick → zK, rg_off → zL, rg_offU → zM, rg_store → zN, rg_storeAgg → zO, rg_convInt → zP, rg_done → zQ, ex_seq → zR, rg_start_s → zS, rg_start_d → zT, ex_cond_true → zU, ex_cond_false → zV, rg_alloc → zW, rg_boxAgg → zX, rg_build → zY, rg_lenSl → zZ, rg_lenMap → yA, ex_skip → yB, ex_block → yC, ex_inBlock → yD, ex_exit → yE, rg_caseG → yZ
set_option maxRecDepth 100000

theorem zeros_le : ∀ l : List Int, zeros l ≤ l.length
  | [] => Nat.le_refl _
  | a :: l => by
    have := zeros_le l
    unfold zeros
    rw [List.length_cons]
    split <;> omega

/-- The children's ends. -/
def runF (c0 c1 : Nat) (s0 s1 : Cn) (xs ys : List Stp) : Bool → List Ch := fun b => if b then [.pr (ChainAt c1 (rEnd s0 s1 ys) (knOf (rEnd s0 s1 ys) s0))] else [.pr (ChainAt c0 (rEnd s1 s0 xs) (knOf (rEnd s1 s0 xs) s1))]
theorem runF0 (c0 c1 : Nat) (s0 s1 : Cn) (xs ys : List Stp) (Γ : List Ch) : runF c0 c1 s0 s1 xs ys false ++ Γ = .pr (ChainAt c0 (rEnd s1 s0 xs) (knOf (rEnd s1 s0 xs) s1)) :: Γ := rfl
theorem runF1 (c0 c1 : Nat) (s0 s1 : Cn) (xs ys : List Stp) (Γ : List Ch) : runF c0 c1 s0 s1 xs ys true ++ Γ = .pr (ChainAt c1 (rEnd s0 s1 ys) (knOf (rEnd s0 s1 ys) s0)) :: Γ := rfl

theorem br_enter (b c0 c1 : Nat) (tk : Int) (z0 z1 : Nat) (htk : 0 ≤ tk ∧ tk < 1000000000) (Γ : List Ch) : brC b true c0 c1 tk :: Γ = .pt b true (brBo c0 c1 (tk + z0 + z1) (z0 + z1)) :: Γ := by
  have h : IntKind.wrap .i64 (tk + z0 + z1 - ((z0 + z1 : Nat) : Int)) = tk := by
    rw [show tk + z0 + z1 - ((z0 + z1 : Nat) : Int) = tk by push_cast; omega]
    exact wIn (by omega) (by omega)
  unfold brBo boOf
  rw [h]

theorem br_leave (b c0 c1 : Nat) (tk : Int) (z0 z1 : Nat) (htk : 0 ≤ tk ∧ tk < 1000000000) (h0 : z0 < 100000000) (h1 : z1 < 100000000) (Γ : List Ch) : .pt b true (brBo c0 c1 (tk + z0 + z1) 0) :: Γ = brC b true c0 c1 (tk + z0 + z1) :: Γ := by
  have h : IntKind.wrap .i64 (tk + z0 + z1 - ((0 : Nat) : Int)) = tk + z0 + z1 := by
    rw [show tk + z0 + z1 - ((0 : Nat) : Int) = tk + z0 + z1 by simp]
    exact wIn (by omega) (by omega)
  unfold brBo boOf
  rw [h]

set_option maxHeartbeats 8000000 in
theorem run_ok {X : Tgt} (hX : Co Try.prog X) (b c0 c1 : Nat) (tk : Int) (s0 s1 : Cn) (va vb : Option Addr) (ca cb : Nat) (xs ys : List Stp) (N : Nat) (Γ : List Ch) (ok0 : Ok N s0) (ok1 : Ok N s1) (k0 : s0.known < s1.heads.length) (k1 : s1.known < s0.heads.length) (htk : 0 ≤ tk ∧ tk < 1000000000) (hN0 : N + xs.length < 100000000) (hN1 : N + ys.length < 100000000)
    (hx : ∀ x ∈ xs, 0 ≤ x.n ∧ x.n < 18446744073709551616) (hy : ∀ x ∈ ys, 0 ≤ x.n ∧ x.n < 18446744073709551616) :
    CallsA Try.prog X 34 #[ptrV b, .slice va xs.length ca, .slice vb ys.length cb] (brL b c0 c1 tk s0 s1 (knOf s0 s1) (knOf s1 s0) (.pr (StepsAt (.slice va xs.length ca) xs) :: .pr (StepsAt (.slice vb ys.length cb) ys) :: Γ))
      (fun v Δ => ∃ ra rb, v = .tuple #[ra, rb] ∧ Ent Δ (brL b c0 c1 (tk + zeros (rCodes s1 s0 xs) + zeros (rCodes s0 s1 ys)) (rEnd s1 s0 xs) (rEnd s0 s1 ys) (knOf (rEnd s1 s0 xs) s1) (knOf (rEnd s0 s1 ys) s0)
        (.pr (SlV 22 1 ra ((rCodes s1 s0 xs).map eV) (rCodes s1 s0 xs).length) :: .pr (SlV 22 1 rb ((rCodes s0 s1 ys).map eV) (rCodes s0 s1 ys).length) :: Γ))) := by
  have hh0 := heads_len ok0 (by omega)
  have hh1 := heads_len ok1 (by omega)
  refine calls_of_bodyA (args := [ptrV b, .slice va xs.length ca, .slice vb ys.length cb]) Try.func34 rfl Try.ntmps34 fun cs ret => ?_
  refine ex_seq (rg_start_s (rg_boxOne rfl fun x3 => ?_))
  repeat (first|refine zA rfl ?_|refine zG rfl ?_|refine zQ ?_|refine zR ?_|refine zS ?_|refine zW fun bl=>?_|refine yC ?_)
  rename_i x8
  refine ex_loop ?_
  repeat (first|refine zA rfl ?_|refine zB rfl rfl rfl ?_|refine zF rfl ?_|refine zG rfl ?_|refine zQ ?_|refine zR ?_|refine zS ?_|refine zU rfl ?_|refine yB ?_|refine yC ?_)
  (refine Rg.front 2 ?_; refine Rg.front 2 ?_; refine Rg.front 2 ?_; refine Rg.front 5 ?_; refine Rg.front 5 ?_; refine Rg.front 5 ?_)
  refine rg_call rfl (of0_ok b c0 c1 tk s0 s1 _ _ _ hh1) ?_
  rintro _ _ ⟨hb0, ps0, hl0, rfl, rfl⟩
  refine ⟨.inl rfl, ?_⟩
  dsimp only [brL]
  repeat (first|refine zA rfl ?_|refine zI rfl rfl ?_)
  refine rg_indexArrN 0 rfl rfl (by decide) rfl ?_
  repeat (first|refine zA rfl ?_|refine zN rfl rfl ?_|refine zQ ?_|refine zS ?_)
  refine rg_makeChan rfl (fun d0 => ?_)
  refine rg_indexArrN 0 rfl rfl (by decide) rfl ?_
  repeat (first|refine zA rfl ?_|refine zB rfl rfl rfl ?_|refine zN rfl rfl ?_|refine zQ ?_|refine zS ?_|refine yD ?_)
  refine ex_inLoop ?_
  repeat (first|refine zA rfl ?_|refine zB rfl rfl rfl ?_|refine zF rfl ?_|refine zG rfl ?_|refine zQ ?_|refine zR ?_|refine zS ?_|refine zU rfl ?_|refine yB ?_|refine yC ?_)
  (refine Rg.front 2 ?_; refine Rg.front 2 ?_; refine Rg.front 2 ?_; refine Rg.front 5 ?_; refine Rg.front 5 ?_; refine Rg.front 5 ?_)
  refine rg_call rfl (of1_ok b c0 c1 tk s0 s1 _ _ _ hh0) ?_
  rintro _ _ ⟨hb1, ps1, hl1, rfl, rfl⟩
  refine ⟨.inl rfl, ?_⟩
  dsimp only [brL]
  repeat (first|refine zA rfl ?_|refine zI rfl rfl ?_)
  refine rg_indexArrN 1 rfl rfl (by decide) rfl ?_
  repeat (first|refine zA rfl ?_|refine zN rfl rfl ?_|refine zQ ?_|refine zS ?_)
  refine rg_makeChan rfl (fun d1 => ?_)
  refine rg_indexArrN 1 rfl rfl (by decide) rfl ?_
  repeat (first|refine zA rfl ?_|refine zB rfl rfl rfl ?_|refine zN rfl rfl ?_|refine zQ ?_|refine zS ?_|refine yD ?_)
  refine ex_inLoop ?_
  repeat (first|refine zA rfl ?_|refine zB rfl rfl rfl ?_|refine zQ ?_|refine zR ?_|refine zS ?_|refine zV rfl ?_|refine yE rfl ?_)
  refine rg_buildArr (vs := [.slice va xs.length ca, .slice vb ys.length cb]) rfl rfl rfl rfl ?_
  repeat (first|refine zA rfl ?_|refine zQ ?_|refine yC ?_)
  refine Ex.sup (E' := [(38, .int .i64 0), (37, .agg ⟨[.slice va xs.length ca, .slice vb ys.length cb]⟩), (3, ptrV x3), (9, ptrV bl), (8, ptrV x8)]) ?_ ⟨rfl, rfl, rfl, rfl, rfl, trivial⟩
  (refine Ex.front 8 ?_; refine Ex.front 8 ?_; refine Ex.front 8 ?_; refine Ex.front 8 ?_; refine Ex.front 8 ?_; refine Ex.front 8 ?_; refine Ex.front 8 ?_; refine Ex.front 8 ?_; refine Ex.front 8 ?_; refine Ex.front 13 ?_; refine Ex.front 13 ?_; refine Ex.front 13 ?_; refine Ex.front 13 ?_; refine Ex.front 13 ?_)
  refine Ex.ro (Ex.dup ?_)
  (refine Ex.front 3 ?_; refine Ex.front 2 ?_; refine Ex.front 2 ?_; refine Ex.front 3 ?_)
  refine Ex.ro (Ex.dup (Ex.dup ?_))
  (refine Ex.front 4 ?_; refine Ex.front 4 ?_; refine Ex.front 4 ?_; refine Ex.front 4 ?_; refine Ex.front 4 ?_; refine Ex.front 5 ?_)
  refine Ex.ro (Ex.dup ?_)
  (refine Ex.front 4 ?_; refine Ex.front 9 ?_; refine Ex.front 15 ?_; refine Ex.front 13 ?_; refine Ex.front 13 ?_; refine Ex.front 13 ?_; refine Ex.front 15 ?_; refine Ex.front 14 ?_; refine Ex.front 11 ?_; refine Ex.front 13 ?_; refine Ex.front 11 ?_; refine Ex.front 17 ?_; refine Ex.front 17 ?_; refine Ex.front 17 ?_; refine Ex.front 17 ?_; refine Ex.front 16 ?_; refine Ex.front 17 ?_; refine Ex.front 17 ?_)
  refine Ex.star (Γ' := .pr (Star [.pt x3 false (.cells ⟨[ptrV b]⟩ 38 (0, 0)), .pt bl false (.cells ⟨[.slice (some ⟨hb0, 0, none⟩) s1.heads.length s1.heads.length, .slice (some ⟨hb1, 0, none⟩) s0.heads.length s0.heads.length]⟩ 115 (0, 0)), .pt x8 false (.cells ⟨[.chan (some d0), .chan (some d1)]⟩ 114 (0, 0)), .pr (StepsAt (.slice va xs.length ca) xs), .pr (ChainAt c0 s0 (knOf s0 s1)), .pt hb0 true (.cells ⟨ps0.map ptrV⟩ 111 (0, 0)), .pr (HeadsAt ps0 s1.heads)]) ::
    .pr (Star [.pt x3 false (.cells ⟨[ptrV b]⟩ 38 (0, 0)), .pt bl false (.cells ⟨[.slice (some ⟨hb0, 0, none⟩) s1.heads.length s1.heads.length, .slice (some ⟨hb1, 0, none⟩) s0.heads.length s0.heads.length]⟩ 115 (0, 0)), .pt x8 false (.cells ⟨[.chan (some d0), .chan (some d1)]⟩ 114 (0, 0)), .pr (StepsAt (.slice vb ys.length cb) ys), .pr (ChainAt c1 s1 (knOf s1 s0)), .pt hb1 true (.cells ⟨ps1.map ptrV⟩ 111 (0, 0)), .pr (HeadsAt ps1 s0.heads)]) ::
    brC b true c0 c1 tk :: .pt d0 true (.chan 0 #[] false 0 0 false) :: .pt d1 true (.chan 0 #[] false 0 0 false) :: .pt x8 false (.cells ⟨[.chan (some d0), .chan (some d1)]⟩ 114 (0, 0)) :: Γ) ?_ (fun h s => star_two s)
  (refine Ex.front 1 ?_; refine Ex.front 1 ?_; refine Ex.front 4 ?_; refine Ex.front 4 ?_; refine Ex.front 4 ?_)
  rw [br_enter b c0 c1 tk (zeros (rCodes s1 s0 xs)) (zeros (rCodes s0 s1 ys)) htk]
  refine ex_companyT (bo := brBo c0 c1 (tk + zeros (rCodes s1 s0 xs) + zeros (rCodes s0 s1 ys))) (ch := fun b => if b then d1 else d0) (z := .int .i64 0) (Γf := runF c0 c1 s0 s1 xs ys) (v0 := (rCodes s1 s0 xs).map eV) (v1 := (rCodes s0 s1 ys).map eV) hX fun R0 R1 R a0 a1 jR => ?_
  refine ex_loop ?_
  repeat (first|refine zA rfl ?_|refine zB rfl rfl rfl ?_|refine zQ ?_|refine zR ?_|refine zS ?_|refine zU rfl ?_|refine yB ?_|refine yC ?_)
  refine rg_indexAgg rfl rfl (by decide) rfl ?_
  repeat (first|refine zN rfl rfl ?_|refine zQ ?_|refine zS ?_|refine zW fun bl=>?_)
  refine rg_makeFunc (vs := [ptrV _, ptrV _, ptrV _, ptrV _, ptrV _]) rfl ?_
  refine rg_loudXY (φ := fun u Γ' => u = undef ∧ Γ' = _) (fun d' e => by cases e) trivial trivial (.inl rfl) (does_go0 rfl jR (fun hc st => kid0_ok xs s0 s1 ps0 _ _ x3 _ x8 hb0 true _ va ca N ok0 ok1 k0 hN0 hl0 hx hc (star_kept a0 st))) ?_
  rintro _ _ ⟨rfl, rfl⟩
  repeat (first|refine zA rfl ?_|refine zB rfl rfl rfl ?_|refine zQ ?_|refine zS ?_|refine yD ?_)
  refine ex_inLoop ?_
  repeat (first|refine zA rfl ?_|refine zB rfl rfl rfl ?_|refine zQ ?_|refine zR ?_|refine zS ?_|refine zU rfl ?_|refine yB ?_|refine yC ?_)
  refine rg_indexAgg rfl rfl (by decide) rfl ?_
  repeat (first|refine zN rfl rfl ?_|refine zQ ?_|refine zS ?_|refine zW fun bl=>?_)
  refine rg_makeFunc (vs := [ptrV _, ptrV _, ptrV _, ptrV _, ptrV _]) rfl ?_
  refine rg_loudXY (φ := fun u Γ' => u = undef ∧ Γ' = _) (fun d' e => by cases e) trivial trivial (.inl rfl) (does_go1 rfl (fun hc st => kid1_ok ys s1 s0 ps1 _ _ x3 _ x8 hb1 true _ vb cb N ok1 ok0 k1 hN1 hl1 hy hc (star_kept a1 st))) ?_
  rintro _ _ ⟨rfl, rfl⟩
  repeat (first|refine zA rfl ?_|refine zB rfl rfl rfl ?_|refine zQ ?_|refine zS ?_|refine yD ?_)
  refine ex_inLoop ?_
  repeat (first|refine zB rfl rfl rfl ?_|refine zQ ?_|refine zR ?_|refine zS ?_|refine zT (by decide+kernel) (by decide+kernel) ?_|refine zV rfl ?_|refine zW fun bl=>?_|refine yE rfl ?_)
  refine rg_indexArrN 0 rfl rfl (by decide) rfl ?_
  repeat refine zF rfl ?_
  refine rg_indexArrN 1 rfl rfl (by decide) rfl ?_
  repeat (first|refine zF rfl ?_|refine zG rfl ?_|refine zQ ?_|refine zR ?_|refine yC ?_)
  refine Ex.sup (E' := [(15, .chan (some d1)), (14, .chan (some d0)), (13, ptrV bl)]) ?_ ⟨rfl, rfl, rfl, trivial⟩
  (refine Ex.front 0 ?_; refine Ex.front 1 ?_)
  refine Ex.drop ?_
  refine Ex.ent (ent_emp (A := SlV 22 1 (.slice none 0 0) ([] : List Value) 0) (.inl ⟨rfl, rfl, rfl⟩)) ?_
  refine Ex.ent (ent_emp (A := SlV 22 1 (.slice none 0 0) ([] : List Value) 0) (.inl ⟨rfl, rfl, rfl⟩)) ?_
  refine Ex.ent (ent_opt0 (A := ChainAt c1 (rEnd s0 s1 ys) (knOf (rEnd s0 s1 ys) s0))) ?_
  refine Ex.ent (ent_opt0 (A := ChainAt c0 (rEnd s1 s0 xs) (knOf (rEnd s1 s0 xs) s1))) ?_
  (refine Ex.front 1 ?_; refine Ex.front 1 ?_; refine Ex.front 3 ?_; refine Ex.front 3 ?_; refine Ex.front 4 ?_)
  have hl0' := rCodes_len s1 xs s0
  have hl1' := rCodes_len s0 ys s1
  refine ex_loop ?_
  refine ex_indX (ι := (List Int × List Int × Bool × Value) × (List Int × List Int × Bool × Value)) (fun i => i.1.2.1.length + i.2.2.1.length + (if i.1.2.2.1 then 0 else 1) + (if i.2.2.2.1 then 0 else 1))
    (fun i => mT Try.prog X b (brBo c0 c1 (tk + zeros (rCodes s1 s0 xs) + zeros (rCodes s0 s1 ys))) (fun b => if b then d1 else d0) (.int .i64 0) (runF c0 c1 s0 s1 xs ys) (sdX i.1.2.2.1 (i.1.2.1.map eV)) (sdX i.2.2.2.1 (i.2.2.1.map eV)) (fun _ => none))
    (fun i => [(15, .chan ((sdX i.2.2.2.1 (i.2.2.1.map eV)).chan d1)), (14, .chan ((sdX i.1.2.2.1 (i.1.2.1.map eV)).chan d0)), (13, ptrV bl)])
    (fun i => .pt bl true (.cells ⟨[i.1.2.2.2, i.2.2.2.2]⟩ 117 (0, 0)) :: .pr (SlV 22 1 i.1.2.2.2 (i.1.1.map eV) i.1.1.length) :: .pr (SlV 22 1 i.2.2.2.2 (i.2.1.map eV) i.2.1.length) ::
      .pr (opt i.1.2.2.1 (ChainAt c0 (rEnd s1 s0 xs) (knOf (rEnd s1 s0 xs) s1))) :: .pr (opt i.2.2.2.1 (ChainAt c1 (rEnd s0 s1 ys) (knOf (rEnd s0 s1 ys) s0))) :: Γ)
    (fun i => rCodes s1 s0 xs = i.1.1 ++ i.1.2.1 ∧ (i.1.2.2.1 = true → i.1.2.1 = []) ∧ rCodes s0 s1 ys = i.2.1 ++ i.2.2.1 ∧ (i.2.2.2.1 = true → i.2.2.1 = [])) (([], rCodes s1 s0 xs, false, .slice none 0 0), ([], rCodes s0 s1 ys, false, .slice none 0 0)) ⟨rfl, (fun h => by cases h), rfl, (fun h => by cases h)⟩ rfl ⟨rfl, rfl, rfl, trivial⟩ rfl ?_
  rintro ⟨⟨l0, r0, g0, v0⟩, ⟨l1, r1, g1, v1⟩⟩ ⟨p0, q0, p1, q1⟩ IH
  dsimp only at p0 q0 p1 q1 IH ⊢
  have n0 : l0.length + r0.length = xs.length := by rw [← hl0', p0, List.length_append]
  have n1 : l1.length + r1.length = ys.length := by rw [← hl1', p1, List.length_append]
  repeat (first|refine zA rfl ?_|refine zR ?_|refine zS ?_)
  refine rg_neqChan rfl rfl ?_
  repeat refine zA rfl ?_
  refine rg_caseG rfl rfl (fun hA => ?_) (fun hA => ?_)
  · repeat (first|refine zA rfl ?_|refine zK rfl rfl ?_|refine zL rfl rfl rfl rfl (by decide) trivial rfl ?_|refine zQ ?_|refine zR ?_|refine zS ?_|refine zU rfl ?_|refine yB ?_|refine yC ?_)
    refine rg_loudYs (fun d' e => by cases e; decide) trivial (does_sel' (sdX_live _ _) (sdX_live _ _) (.inl (sdX_some hA)) rfl rfl) ?_
    rintro Y u Γ' (⟨v, vs, h1, rfl, rfl, rfl⟩ | ⟨h1, rfl, rfl, rfl⟩ | ⟨v, vs, h1, rfl, rfl, rfl⟩ | ⟨h1, rfl, rfl, rfl⟩)
    · obtain ⟨a, q, rfl, rfl, rfl, rfl⟩ := sdX_cons h1
      have n2 := n0
      rw [List.length_cons] at n2
      repeat (first|refine zA rfl ?_|refine zB rfl rfl rfl ?_|refine zG rfl ?_|refine zI rfl rfl ?_|refine zJ rfl ?_|refine zQ ?_|refine zR ?_|refine zS ?_|refine zU rfl ?_|refine zV rfl ?_|refine yB ?_|refine yC ?_)
      refine rg_indexArrN 0 rfl rfl (by decide) rfl ?_
      repeat (first|refine zA rfl ?_|refine zF rfl ?_)
      refine rg_buildSlice (vs := [eV a]) rfl rfl rfl rfl (fun b2 => ?_)
      (refine Rg.front 5 ?_; refine Rg.front 5 ?_; refine Rg.front 5 ?_; refine Rg.front 4 ?_; refine Rg.front 4 ?_; refine Rg.front 5 ?_)
      refine rg_append (xs := l0.map eV) (ys := [eV a]) (len := l0.length) (c := 1) rfl rfl (.inr ⟨b2, 0, 1, true, [eV a], 22, (0, 0), rfl, Find.mem, inferInstance⟩) (fun v hv => by rw [List.mem_singleton.1 hv]; rfl) (by omega) (by omega) (fun s' => .inl rfl) (fun w hone => ?_)
      refine rg_indexArrN 0 rfl rfl (by decide) rfl ?_
      refine rg_store rfl rfl ?_ hone
      repeat (first|refine zQ ?_|refine yD ?_)
      (refine Ex.front 5 ?_; refine Ex.front 5 ?_; refine Ex.front 5 ?_; refine Ex.front 3 ?_; refine Ex.front 5 ?_; refine Ex.front 5 ?_)
      refine Ex.drop ?_
      have e1 : l0.map eV ++ [eV a] = (l0 ++ [a]).map eV := by simp
      have e2 : l0.length + 1 = (l0 ++ [a]).length := by simp
      rw [e1, e2]
      refine ex_inLoop ?_
      exact Ex.sup (IH ((l0 ++ [a], q, false, w), (l1, r1, g1, v1)) ⟨by rw [p0]; simp, (fun h => by cases h), p1, q1⟩ (by simp only [List.length_cons]; omega)) ⟨rfl, rfl, rfl, trivial⟩
    · obtain ⟨rfl, rfl⟩ := sdX_nil h1
      rw [runF0]
      repeat (first|refine zA rfl ?_|refine zB rfl rfl rfl ?_|refine zG rfl ?_|refine zI rfl rfl ?_|refine zJ rfl ?_|refine zQ ?_|refine zR ?_|refine zS ?_|refine zU rfl ?_|refine yC ?_|refine yE rfl ?_)
      (refine Ex.front 5 ?_; refine Ex.front 4 ?_; refine Ex.front 4 ?_; refine Ex.front 4 ?_; refine Ex.front 4 ?_; refine Ex.front 5 ?_)
      refine Ex.drop (Ex.ent ent_optI ?_)
      (refine Ex.front 4 ?_; refine Ex.front 1 ?_; refine Ex.front 4 ?_; refine Ex.front 4 ?_; refine Ex.front 4 ?_)
      refine ex_inLoop ?_
      exact Ex.sup (IH ((l0, [], true, v0), (l1, r1, g1, v1)) ⟨p0, (fun _ => rfl), p1, q1⟩ (by simp)) ⟨rfl, rfl, rfl, trivial⟩
    · obtain ⟨a, q, rfl, rfl, rfl, rfl⟩ := sdX_cons h1
      have n2 := n1
      rw [List.length_cons] at n2
      repeat (first|refine zA rfl ?_|refine zB rfl rfl rfl ?_|refine zG rfl ?_|refine zI rfl rfl ?_|refine zJ rfl ?_|refine zQ ?_|refine zR ?_|refine zS ?_|refine zU rfl ?_|refine zV rfl ?_|refine yB ?_|refine yC ?_)
      refine rg_indexArrN 1 rfl rfl (by decide) rfl ?_
      repeat (first|refine zA rfl ?_|refine zF rfl ?_)
      refine rg_buildSlice (vs := [eV a]) rfl rfl rfl rfl (fun b2 => ?_)
      (refine Rg.front 5 ?_; refine Rg.front 5 ?_; refine Rg.front 4 ?_; refine Rg.front 4 ?_; refine Rg.front 4 ?_; refine Rg.front 5 ?_)
      refine rg_append (xs := l1.map eV) (ys := [eV a]) (len := l1.length) (c := 1) rfl rfl (.inr ⟨b2, 0, 1, true, [eV a], 22, (0, 0), rfl, Find.mem, inferInstance⟩) (fun v hv => by rw [List.mem_singleton.1 hv]; rfl) (by omega) (by omega) (fun s' => .inl rfl) (fun w hone => ?_)
      refine rg_indexArrN 1 rfl rfl (by decide) rfl ?_
      refine rg_store rfl rfl ?_ hone
      repeat (first|refine zQ ?_|refine yD ?_)
      (refine Ex.front 5 ?_; refine Ex.front 5 ?_; refine Ex.front 2 ?_; refine Ex.front 5 ?_; refine Ex.front 5 ?_; refine Ex.front 5 ?_)
      refine Ex.drop ?_
      have e1 : l1.map eV ++ [eV a] = (l1 ++ [a]).map eV := by simp
      have e2 : l1.length + 1 = (l1 ++ [a]).length := by simp
      rw [e1, e2]
      refine ex_inLoop ?_
      exact Ex.sup (IH ((l0, r0, g0, v0), (l1 ++ [a], q, false, w)) ⟨p0, q0, by rw [p1]; simp, (fun h => by cases h)⟩ (by simp only [List.length_cons]; omega)) ⟨rfl, rfl, rfl, trivial⟩
    · obtain ⟨rfl, rfl⟩ := sdX_nil h1
      rw [runF1]
      repeat (first|refine zA rfl ?_|refine zB rfl rfl rfl ?_|refine zG rfl ?_|refine zI rfl rfl ?_|refine zJ rfl ?_|refine zQ ?_|refine zR ?_|refine zS ?_|refine zU rfl ?_|refine zV rfl ?_|refine yC ?_|refine yE rfl ?_)
      (refine Ex.front 4 ?_; refine Ex.front 4 ?_; refine Ex.front 4 ?_; refine Ex.front 4 ?_; refine Ex.front 4 ?_; refine Ex.front 5 ?_)
      refine Ex.drop (Ex.ent ent_optI ?_)
      (refine Ex.front 0 ?_; refine Ex.front 4 ?_; refine Ex.front 4 ?_; refine Ex.front 4 ?_; refine Ex.front 4 ?_)
      refine ex_inLoop ?_
      exact Ex.sup (IH ((l0, r0, g0, v0), (l1, [], true, v1)) ⟨p0, q0, p1, (fun _ => rfl)⟩ (by simp)) ⟨rfl, rfl, rfl, trivial⟩
  · refine rg_move rfl ?_
    refine rg_neqChan rfl rfl ?_
    repeat (first|refine zK rfl rfl ?_|refine zQ ?_)
    refine ex_cond_split rfl (fun hB => ?_) (fun hB => ?_)
    · repeat (first|refine zA rfl ?_|refine zQ ?_|refine zR ?_|refine zS ?_|refine yB ?_|refine yC ?_)
      refine rg_loudYs (fun d' e => by cases e; decide) trivial (does_sel' (sdX_live _ _) (sdX_live _ _) (.inr (sdX_some hB)) rfl rfl) ?_
      rintro Y u Γ' (⟨v, vs, h1, rfl, rfl, rfl⟩ | ⟨h1, rfl, rfl, rfl⟩ | ⟨v, vs, h1, rfl, rfl, rfl⟩ | ⟨h1, rfl, rfl, rfl⟩)
      · obtain ⟨a, q, rfl, rfl, rfl, rfl⟩ := sdX_cons h1
        have n2 := n0
        rw [List.length_cons] at n2
        repeat (first|refine zA rfl ?_|refine zB rfl rfl rfl ?_|refine zG rfl ?_|refine zI rfl rfl ?_|refine zJ rfl ?_|refine zQ ?_|refine zR ?_|refine zS ?_|refine zU rfl ?_|refine zV rfl ?_|refine yB ?_|refine yC ?_)
        refine rg_indexArrN 0 rfl rfl (by decide) rfl ?_
        repeat (first|refine zA rfl ?_|refine zF rfl ?_)
        refine rg_buildSlice (vs := [eV a]) rfl rfl rfl rfl (fun b2 => ?_)
        (refine Rg.front 5 ?_; refine Rg.front 5 ?_; refine Rg.front 5 ?_; refine Rg.front 4 ?_; refine Rg.front 4 ?_; refine Rg.front 5 ?_)
        refine rg_append (xs := l0.map eV) (ys := [eV a]) (len := l0.length) (c := 1) rfl rfl (.inr ⟨b2, 0, 1, true, [eV a], 22, (0, 0), rfl, Find.mem, inferInstance⟩) (fun v hv => by rw [List.mem_singleton.1 hv]; rfl) (by omega) (by omega) (fun s' => .inl rfl) (fun w hone => ?_)
        refine rg_indexArrN 0 rfl rfl (by decide) rfl ?_
        refine rg_store rfl rfl ?_ hone
        repeat (first|refine zQ ?_|refine yD ?_)
        (refine Ex.front 5 ?_; refine Ex.front 5 ?_; refine Ex.front 5 ?_; refine Ex.front 3 ?_; refine Ex.front 5 ?_; refine Ex.front 5 ?_)
        refine Ex.drop ?_
        have e1 : l0.map eV ++ [eV a] = (l0 ++ [a]).map eV := by simp
        have e2 : l0.length + 1 = (l0 ++ [a]).length := by simp
        rw [e1, e2]
        refine ex_inLoop ?_
        exact Ex.sup (IH ((l0 ++ [a], q, false, w), (l1, r1, g1, v1)) ⟨by rw [p0]; simp, (fun h => by cases h), p1, q1⟩ (by simp only [List.length_cons]; omega)) ⟨rfl, rfl, rfl, trivial⟩
      · obtain ⟨rfl, rfl⟩ := sdX_nil h1
        rw [runF0]
        repeat (first|refine zA rfl ?_|refine zB rfl rfl rfl ?_|refine zG rfl ?_|refine zI rfl rfl ?_|refine zJ rfl ?_|refine zQ ?_|refine zR ?_|refine zS ?_|refine zU rfl ?_|refine yC ?_|refine yE rfl ?_)
        (refine Ex.front 5 ?_; refine Ex.front 4 ?_; refine Ex.front 4 ?_; refine Ex.front 4 ?_; refine Ex.front 4 ?_; refine Ex.front 5 ?_)
        refine Ex.drop (Ex.ent ent_optI ?_)
        (refine Ex.front 4 ?_; refine Ex.front 1 ?_; refine Ex.front 4 ?_; refine Ex.front 4 ?_; refine Ex.front 4 ?_)
        refine ex_inLoop ?_
        exact Ex.sup (IH ((l0, [], true, v0), (l1, r1, g1, v1)) ⟨p0, (fun _ => rfl), p1, q1⟩ (by simp)) ⟨rfl, rfl, rfl, trivial⟩
      · obtain ⟨a, q, rfl, rfl, rfl, rfl⟩ := sdX_cons h1
        have n2 := n1
        rw [List.length_cons] at n2
        repeat (first|refine zA rfl ?_|refine zB rfl rfl rfl ?_|refine zG rfl ?_|refine zI rfl rfl ?_|refine zJ rfl ?_|refine zQ ?_|refine zR ?_|refine zS ?_|refine zU rfl ?_|refine zV rfl ?_|refine yB ?_|refine yC ?_)
        refine rg_indexArrN 1 rfl rfl (by decide) rfl ?_
        repeat (first|refine zA rfl ?_|refine zF rfl ?_)
        refine rg_buildSlice (vs := [eV a]) rfl rfl rfl rfl (fun b2 => ?_)
        (refine Rg.front 5 ?_; refine Rg.front 5 ?_; refine Rg.front 4 ?_; refine Rg.front 4 ?_; refine Rg.front 4 ?_; refine Rg.front 5 ?_)
        refine rg_append (xs := l1.map eV) (ys := [eV a]) (len := l1.length) (c := 1) rfl rfl (.inr ⟨b2, 0, 1, true, [eV a], 22, (0, 0), rfl, Find.mem, inferInstance⟩) (fun v hv => by rw [List.mem_singleton.1 hv]; rfl) (by omega) (by omega) (fun s' => .inl rfl) (fun w hone => ?_)
        refine rg_indexArrN 1 rfl rfl (by decide) rfl ?_
        refine rg_store rfl rfl ?_ hone
        repeat (first|refine zQ ?_|refine yD ?_)
        (refine Ex.front 5 ?_; refine Ex.front 5 ?_; refine Ex.front 2 ?_; refine Ex.front 5 ?_; refine Ex.front 5 ?_; refine Ex.front 5 ?_)
        refine Ex.drop ?_
        have e1 : l1.map eV ++ [eV a] = (l1 ++ [a]).map eV := by simp
        have e2 : l1.length + 1 = (l1 ++ [a]).length := by simp
        rw [e1, e2]
        refine ex_inLoop ?_
        exact Ex.sup (IH ((l0, r0, g0, v0), (l1 ++ [a], q, false, w)) ⟨p0, q0, by rw [p1]; simp, (fun h => by cases h)⟩ (by simp only [List.length_cons]; omega)) ⟨rfl, rfl, rfl, trivial⟩
      · obtain ⟨rfl, rfl⟩ := sdX_nil h1
        rw [runF1]
        repeat (first|refine zA rfl ?_|refine zB rfl rfl rfl ?_|refine zG rfl ?_|refine zI rfl rfl ?_|refine zJ rfl ?_|refine zQ ?_|refine zR ?_|refine zS ?_|refine zU rfl ?_|refine zV rfl ?_|refine yC ?_|refine yE rfl ?_)
        (refine Ex.front 4 ?_; refine Ex.front 4 ?_; refine Ex.front 4 ?_; refine Ex.front 4 ?_; refine Ex.front 4 ?_; refine Ex.front 5 ?_)
        refine Ex.drop (Ex.ent ent_optI ?_)
        (refine Ex.front 0 ?_; refine Ex.front 4 ?_; refine Ex.front 4 ?_; refine Ex.front 4 ?_; refine Ex.front 4 ?_)
        refine ex_inLoop ?_
        exact Ex.sup (IH ((l0, r0, g0, v0), (l1, [], true, v1)) ⟨p0, q0, p1, (fun _ => rfl)⟩ (by simp)) ⟨rfl, rfl, rfl, trivial⟩
    · have z0 := zeros_le (rCodes s1 s0 xs)
      have z1 := zeros_le (rCodes s0 s1 ys)
      obtain rfl := sdX_none hA
      obtain rfl := sdX_none hB
      obtain rfl := q0 rfl
      obtain rfl := q1 rfl
      rw [List.append_nil] at p0 p1
      refine ex_leaveT ?_
      rw [br_leave b c0 c1 tk _ _ htk (by omega) (by omega)]
      (refine Ex.front 5 ?_; refine Ex.front 4 ?_; refine Ex.front 4 ?_; refine Ex.front 4 ?_; refine Ex.front 4 ?_; refine Ex.front 5 ?_)
      refine Ex.ent ent_optE ?_
      (refine Ex.front 4 ?_; refine Ex.front 4 ?_; refine Ex.front 4 ?_; refine Ex.front 4 ?_; refine Ex.front 4 ?_; refine Ex.front 5 ?_)
      refine Ex.ent ent_optE ?_
      (refine Ex.front 5 ?_; refine Ex.front 5 ?_; refine Ex.front 2 ?_; refine Ex.front 3 ?_; refine Ex.front 4 ?_; refine Ex.front 5 ?_)
      repeat (first|refine zR ?_|refine zT (by decide+kernel) (by decide+kernel) ?_|refine yE rfl ?_)
      refine rg_indexArrN 0 rfl rfl (by decide) rfl ?_
      repeat refine zF rfl ?_
      refine rg_indexArrN 1 rfl rfl (by decide) rfl ?_
      repeat (first|refine zF rfl ?_|refine zG rfl ?_|refine zQ ?_)
      refine ex_rete ret Try.func34 rfl (Ent.drop (Ent.refl _)) ⟨v0, v1, rfl, ?_⟩
      rw [p0, p1]
      exact Ent.refl _
end Go.Br

namespace Go.Lx
open Go Go.Conc
open Go.ConcN (upd upd_same upd_ne sumTo sumTo_upd)

theorem ComL.handed {t : Trace} (c : ComL t) : t.HandedOver := by
  intro i g hg h0 ⟨x, hx, hm, _⟩
  have hx' : touchAt t i = some x := hx
  obtain ⟨r, v, e1, e2, e3⟩ := c.kn i x hx' hm
  refine ⟨r, by simp [Trace.g?, e1, e2], ?_⟩
  rcases e3 with e3 | e3
  · subst e3
    rw [Trace.g?, e1] at hg
    simp at hg
    exact absurd (hg.symm.trans e2) h0
  · exact e3

/-- The machine without company: goroutine 0 returns, and the machine ends. -/
theorem idle_fin {P : Program} {g : Goroutine} {h : LH} {Q : World → Value → World → Prop} (st : ∀ w, h.Sub w → ∃ v w' es, stepG P true g w = .ended (.done v) w' es ∧ (∀ x ∈ es, EvOK h x) ∧ Q w v w') :
    ∀ gs w sl t q, Idle P g h gs w t q → ∃ N last v w1 w' t', runNT P (N + 1) (crowd gs w sl) t = (.ended (.done v) w', t') ∧ runN P N (crowd gs w sl) = .next last ∧ step P last = .ended (.done v) w' ∧
      FarU h w h w1 ∧ h.Sub w1 ∧ Q w1 v w' ∧ (∀ said, ¬ Race said t') ∧ t'.HandedOver ∧ last.OnlyLeaving P ∧ last.EndHearing P t' := by
  have main : ∀ n gs w sl t q, Idle P g h gs w t q → sumTo gs.size q ≤ n → ∃ N last v w1 w' t', runNT P (N + 1) (crowd gs w sl) t = (.ended (.done v) w', t') ∧ runN P N (crowd gs w sl) = .next last ∧ step P last = .ended (.done v) w' ∧
      FarU h w h w1 ∧ h.Sub w1 ∧ Q w1 v w' ∧ (∀ said, ¬ Race said t') ∧ t'.HandedOver ∧ last.OnlyLeaving P ∧ last.EndHearing P t' := by
    intro n
    induction n using Nat.strongRecOn with
    | ind n ihn =>
      intro gs w sl t q c hle
      obtain ⟨a0, ha0, f1, f2, f3, f4⟩ := c.at0
      have hlt0 : 0 < gs.size := (Array.getElem?_eq_some_iff.1 ha0).1
      have aw : ∀ g ∈ gs, awake g := fun g hg => by
        obtain ⟨i, hi, rfl⟩ := Array.mem_iff_getElem.1 hg
        have hi' : gs[i]? = some gs[i] := Array.getElem?_eq_getElem hi
        rcases Nat.eq_zero_or_pos i with e | e
        · subst e
          rw [ha0] at hi'
          rw [← Option.some.inj hi']; exact awake_of (.inl f4)
        · exact awake_of ((c.old i _ e hi').status.imp id .inr)
      obtain ⟨i, g1, d, sl', hi, hg, hst⟩ := crowd_pick (P := P) (w := w) (sl := sl) aw ⟨0, a0, ha0, f4⟩
      have calm : ∀ (w' : World) (a a' : Goroutine), (gs.map (woken P a a' w')).setIfInBounds i a' = gs.setIfInBounds i a' := fun w' a a' => by
        apply Array.ext_getElem?
        intro j
        by_cases hij : i = j
        · subst hij
          by_cases hlt : i < gs.size
          · rw [Array.getElem?_setIfInBounds_self_of_lt (by simpa using hlt), Array.getElem?_setIfInBounds_self_of_lt hlt]
          · rw [Array.getElem?_eq_none (by simpa using hlt), Array.getElem?_eq_none (by simpa using hlt)]
        · rw [Array.getElem?_setIfInBounds_ne hij, Array.getElem?_setIfInBounds_ne hij, Array.getElem?_map]
          cases hg : gs[j]? with
          | none => rfl
          | some x =>
            have key : x.again w' = x := by
              rcases Nat.eq_zero_or_pos j with e | e
              · subst e; rw [ha0] at hg; rw [← Option.some.inj hg]; exact again_running _ (.inl f4)
              · exact again_running _ (c.old j x e hg).status
            simp only [Option.map_some, Option.some.injEq]
            unfold woken
            split
            · exact key
            · rfl
      rcases Nat.eq_zero_or_pos i with i0 | ip
      · subst i0
        rw [ha0] at hi
        obtain rfl := Option.some.inj hi
        obtain ⟨v, w', es, e1, ev, hQ⟩ := st (w.at d) c.sub
        have hr := Go.ConcN.runT_crowd_ended (P := P) (sl := sl') (i := 0) ha0 (show stepG P (0 == 0) a0 (w.at d) = _ from (stepG_same f1 f2 f3 _).trans e1)
        have cl := c.com.own (fn := a0.frame.fn) (pos := a0.frame.place) ev
        refine ⟨0, _, v, _, w', _, by simp [runNT, hst, hr], rfl, by simp [step, hst, hr], FarU.at h w d, c.sub, hQ, cl.clean, cl.handed, ⟨fun x hx => ?_, rfl⟩, fun j x hx hne => ?_⟩
        · obtain ⟨j, hj⟩ := List.getElem?_of_mem hx
          rw [List.getElem?_drop] at hj
          have hj' : gs[1 + j]? = some x := by simpa [crowd] using hj
          exact ⟨_, (c.old _ x (by omega) hj').leaves⟩
        · have hx' : gs[j]? = some x := hx
          rw [quiet_deaf cl.quiet]
          exact ⟨_, (c.old j x (by omega) hx').hears _ 0⟩
      · have hq := c.old i g1 ip hi
        have hlt : i < gs.size := (Array.getElem?_eq_some_iff.1 hi).1
        have i0 : (i == 0) = false := by simp; omega
        obtain ⟨k, g', e1, e2, e3⟩ := quits_step hq hg
        have hr := runT_crowd_go (P := P) (sl := sl') hi (by rw [i0]; exact e2 (w.at d))
        rw [calm, ofEvents_none] at hr
        have hsum : sumTo gs.size (upd q i k) + (k + 1) = sumTo gs.size q + k := by
          have := sumTo_upd q k id hlt
          simpa [e1] using this
        obtain ⟨N, last, v, w1, w', t', r1, r2, r3, r4, r5⟩ := ihn (sumTo gs.size (upd q i k)) (by omega) (gs.setIfInBounds i g') (w.at d) sl' t (upd q i k) ⟨⟨a0, by rw [Array.getElem?_setIfInBounds_ne (by omega)]; exact ha0, f1, f2, f3, f4⟩, fun j x hj hx => by
          by_cases e : i = j
          · subst e
            rw [Array.getElem?_setIfInBounds_self_of_lt hlt] at hx
            cases hx
            rw [upd_same]; exact e3
          · rw [Array.getElem?_setIfInBounds_ne e] at hx
            rw [upd_ne q k (fun x => e x.symm)]
            exact c.old j x hj hx, c.com, c.sub⟩ (by rw [Array.size_setIfInBounds]; exact Nat.le_refl _)
        have hs := hst.trans hr
        exact ⟨N + 1, last, v, w1, w', t', by rw [runNT_succ_next hs, Array.append_empty]; exact r1, by rw [runN_succ_next hs]; exact r2, r3, (FarU.at h w d).trans r4, r5⟩
  exact fun gs w sl t q c => main _ gs w sl t q c (Nat.le_refl _)

theorem grown_of_far {h h' : LH} {W W' : World} (u : FarU h W h' W') (hs : h.Sub W) (hs' : h'.Sub W') (ro : ∀ b p o, h b = some (p, o) → p = false) : GrownO W W' where
  os := u.os
  output := u.output
  size := u.size
  heap := fun i hi => by
    cases e : h i with
    | none => exact u.keep i hi e
    | some x =>
      obtain ⟨p, o⟩ := x
      have hp := ro _ _ _ e
      obtain ⟨o', e', q⟩ := u.perm _ _ _ e
      rw [hs' _ _ _ e', hs _ _ _ e, q hp]

/-- From a contract to one good run. -/
theorem good_of_callsA {P : Program} {f : FuncId} {args : Array Value} {Γ : List Ch} {φ : Value → List Ch → Prop} {Post : Value → World → Prop} (c : ∀ X, Co P X → CallsA P X f args Γ φ) (hin : P.inits.idxOf? f = none) {h : LH} {W : World} (st : Star Γ h) (hs : h.Sub W)
    (ro : ∀ b p o, h b = some (p, o) → p = false) (hp : ∀ v Γ' W', φ v Γ' → GrownO W W' → Post v W') :
    ∃ M last o w' t', runNT P (M + 1) (solo (G (Frame.enter P f args .normal) []) W) #[] = (.ended o w', t') ∧ runN P M (solo (G (Frame.enter P f args .normal) []) W) = .next last ∧ step P last = .ended o w' ∧ Conc.Good P Post last o w' t' := by
  let S : Goroutine → LH → Prop := fun g h => ∃ fr v Γ' h0, g = gor fr [] ∧ φ v Γ' ∧ Retd P f v Γ' fr ∧ Star Γ' h0 ∧ h0.Le h
  have hS : ∀ g h h', S g h → h.Le h' → S g h' := fun g h h' ⟨fr, v, Γ', h0, a, b, c, d, e⟩ l => ⟨fr, v, Γ', h0, a, b, c, d, e.trans l⟩
  have ev := c (coTgt P S hS) (coTgt_co P S hS) [] h st fun fr v Γ' h' hφ r s => .stop (.stop ⟨fr, v, Γ', h', rfl, hφ, r, s, .refl _⟩)
  have ep := (coTgt_ec ev).reach
  obtain ⟨N, gs', w', sl', t', q', g', h', r1, id', ⟨fr, v, Γ', h0, rfl, hφ, rt, sΓ, le⟩, fu⟩ := ep #[gor (Frame.enter P f args .normal) []] W none #[] (fun _ => 0)
    ⟨⟨_, rfl, rfl, rfl, rfl, rfl⟩, (fun i x hi hx => by
      rw [Array.getElem?_eq_none (by show 1 ≤ i; omega)] at hx; cases hx), ⟨fun said ⟨i, j, hij, ⟨a, b, ha, _⟩, _⟩ => by simp [Trace.act?] at ha, fun op hop => by simp at hop, fun i a ha => by simp [touchAt, Trace.act?] at ha⟩, hs⟩
  obtain ⟨h1, h2, h3, h4, fn, h5, h6⟩ := rt
  obtain ⟨M, last, v', w1, w2, t2, s1, s2, s3, s4, sW, ⟨rfl, rfl⟩, s6, s7, s8, s9⟩ := idle_fin (P := P) (g := gor fr []) (h := h') (Q := fun w1 v' w2 => v' = v ∧ w2 = w1) (fun w hw => by
    obtain ⟨v', w', h'', es', q1, q2, q3, rfl, rfl⟩ := wpE_sound (results fn fr.tmps) #[] (le.sub hw) (h6 h0 sΓ)
    obtain ⟨rfl, _⟩ := RO.run (ro_results fn fr.tmps) q1
    refine ⟨v', w', seen P fr.fn (#[] ++ es'), ?_, fun x hx => EvOK.le le (q3 x (by simpa using mem_seen hx)), rfl, rfl⟩
    have h5' : P.funcs[fr.fn]? = some fn := by rw [h1]; exact h5
    have hin' : P.inits.idxOf? fr.fn = none := by rw [h1]; exact hin
    simp only [gor, stepG, h2, unwind, h3, h5', doReturn, h4]
    rw [q1]
    simp [GStep.after, hin']) gs' w' sl' t' q' id'
  refine ⟨N + M, last, _, _, t2, ?_, ?_, s3, _, rfl, hp _ Γ' _ hφ (grown_of_far (fu.trans s4) hs sW ro), s6, s7, s8, s9⟩
  · rw [show N + M + 1 = N + (M + 1) by omega, runNT_add]
    rw [solo_eq_crowd]
    show (match runNT P N (crowd #[gor (Frame.enter P f args .normal) []] W none) #[] with | (.next m', t') => runNT P (M + 1) m' t' | r => r) = _
    rw [r1]; exact s1
  · rw [← runNT_fst P (N + M) _ #[], runNT_add, solo_eq_crowd]
    show ((match runNT P N (crowd #[gor (Frame.enter P f args .normal) []] W none) #[] with | (.next m', t') => runNT P M m' t' | r => r)).1 = _
    rw [r1]
    show (runNT P M (crowd gs' w' sl') t').1 = _
    rw [runNT_fst]; exact s2
end Go.Lx

namespace Go.Lx
open Go
section
variable {P : Program} {X : Tgt} {f : FuncId} {args : Array Value} {Γ Γ' : List Ch} {φ ψ : Value → List Ch → Prop}
theorem CallsA.ent (a : Ent Γ Γ') (c : CallsA P X f args Γ' φ) : CallsA P X f args Γ φ := fun cs h s e => by
  obtain ⟨h', l, s'⟩ := a h s
  exact (c cs h' s' e).mono l
theorem CallsA.open_ {ι : Type} {Δ : ι → List Ch} {φ' : ι → Prop} (o : ∀ h, Star Γ h → ∃ x, φ' x ∧ Star (Δ x) h) (e : ∀ x, φ' x → CallsA P X f args (Δ x) φ) : CallsA P X f args Γ φ := fun cs h s r =>
  let ⟨x, hx, s'⟩ := o h s; e x hx cs h s' r
theorem CallsA.mono (c : CallsA P X f args Γ φ) (m : ∀ v Δ, φ v Δ → ψ v Δ) : CallsA P X f args Γ ψ :=
  fun cs h s e => c cs h s fun fr v Γ' h' hφ => e fr v Γ' h' (m _ _ hφ)
end
end Go.Lx

namespace Go.Br
open Go Go.Lx Go.Proofs
set_option maxRecDepth 100000

theorem knOf_ext {s o o' : Cn} {l : List Hd} (h : s.known < o.heads.length) (e : o'.heads = o.heads ++ l) : knOf s o' = knOf s o := by
  unfold knOf
  rw [e]; exact getD_append h

theorem rEnd_facts {B : Nat} {o : Cn} (hx0 : o.heads.length < 1000000000) : ∀ (xs : List Stp) (s : Cn), Ok B s → s.known < o.heads.length → B + xs.length < 100000000 → (∀ x ∈ xs, 0 ≤ x.n) →
    Ok (B + xs.length) (rEnd o s xs) ∧ (rEnd o s xs).known < o.heads.length ∧ (∃ l, (rEnd o s xs).heads = s.heads ++ l) ∧ (rEnd o s xs).n = s.n := by
  intro xs
  induction xs generalizing B with
  | nil => exact fun s ok k _ _ => ⟨ok, k, ⟨[], by simp [rEnd]⟩, rfl⟩
  | cons x xs ih =>
    intro s ok k hB hx
    rw [List.length_cons] at hB
    obtain ⟨f1, ⟨l, f2⟩, _⟩ := step_frame s x (knOf s o) o.heads.length
    obtain ⟨a, b, ⟨l', c⟩, d⟩ := ih (B := B + 1) _ (step_keeps ok (by omega) x (hx x (List.mem_cons_self ..)) (knOf s o) o.heads.length) (known_keeps k x _) (by omega) (fun y hy => hx y (List.mem_cons_of_mem _ hy))
    refine ⟨a.mono (by rw [List.length_cons]; omega), b, ⟨l ++ l', ?_⟩, d.trans f1⟩
    show (rEnd o _ xs).heads = _
    rw [c, f2, List.append_assoc]

/-- The bridge behind a Run. -/
def bgRun (S : Bg) (xs ys : List Stp) : Bg := ⟨rEnd S.s1 S.s0 xs, rEnd S.s0 S.s1 ys, S.tk + zeros (rCodes S.s1 S.s0 xs) + zeros (rCodes S.s0 S.s1 ys)⟩

theorem Run_bg {X : Tgt} (hX : Co Try.prog X) (b : Nat) (S : Bg) (va vb : Option Addr) (ca cb : Nat) (xs ys : List Stp) (N : Nat) (Γ : List Ch) (ok : BgOk N S) (hN0 : N + xs.length < 100000000) (hN1 : N + ys.length < 100000000)
    (hx : ∀ x ∈ xs, 0 ≤ x.n ∧ x.n < 18446744073709551616) (hy : ∀ x ∈ ys, 0 ≤ x.n ∧ x.n < 18446744073709551616) :
    CallsA Try.prog X 34 #[ptrV b, .slice va xs.length ca, .slice vb ys.length cb] (.pr (BgAt b S) :: .pr (StepsAt (.slice va xs.length ca) xs) :: .pr (StepsAt (.slice vb ys.length cb) ys) :: Γ)
      (fun v Δ => ∃ ra rb, v = .tuple #[ra, rb] ∧ Ent Δ (.pr (BgAt b (bgRun S xs ys)) ::
        .pr (SlV 22 1 ra ((rCodes S.s1 S.s0 xs).map eV) (rCodes S.s1 S.s0 xs).length) :: .pr (SlV 22 1 rb ((rCodes S.s0 S.s1 ys).map eV) (rCodes S.s0 S.s1 ys).length) :: Γ)) := by
  refine CallsA.open_ bg_open fun z _ => ?_
  obtain ⟨c0, c1⟩ := z
  have htk := ok.tk
  have g1 := heads_len ok.ok1 (by omega)
  have g0 := heads_len ok.ok0 (by omega)
  obtain ⟨_, e2, ⟨l0, e3⟩, _⟩ := rEnd_facts g1 xs S.s0 ok.ok0 ok.k0 hN0 (fun x h => (hx x h).1)
  obtain ⟨_, e5, ⟨l1, e6⟩, _⟩ := rEnd_facts g0 ys S.s1 ok.ok1 ok.k1 hN1 (fun x h => (hy x h).1)
  refine (run_ok hX b c0 c1 S.tk S.s0 S.s1 va vb ca cb xs ys N Γ ok.ok0 ok.ok1 ok.k0 ok.k1 (by omega) hN0 hN1 hx hy).mono ?_
  rintro v Δ ⟨ra, rb, rfl, hE⟩
  refine ⟨ra, rb, rfl, Ent.trans hE ?_⟩
  exact bg_fold (S := bgRun S xs ys) c0 c1 rfl rfl rfl (knOf_ext e2 e6).symm (knOf_ext e5 e3).symm
end Go.Br
