/-
  Lemmas towards the law, proved without conditions of their own: The sort, 7: the partitions. (Printed by wip/tools/gen_so7.py.).
-/
import Derived.Test.YtedaknlacigbhaaPk16
namespace Go.Br
open Go Go.Lx Go.Proofs
open Go.Lx renaming rg_move → zA, rg_int → zB, rg_nilCheck → zC, rg_fieldAddr0 → zD, rg_fieldAddr → zE, rg_load → zF, rg_assign → zG, rg_loadAgg → zH, rg_extract → zI, rg_not → zJ, rg_pick → zK, rg_off → zL, rg_offU → zM, rg_store → zN, rg_storeAgg → zO, rg_convInt → zP, rg_done → zQ, ex_seq → zR, rg_start_s → zS, rg_start_d → zT, ex_cond_true → zU, ex_cond_false → zV, rg_alloc → zW, rg_boxAgg → zX, rg_build → zY, rg_lenSl → zZ, rg_lenMap → yA, ex_skip → yB, ex_block → yC, ex_inBlock → yD, ex_exit → yE, rg_caseG → yZ
set_option maxRecDepth 100000

theorem scanUp_go {p : Int → Bool} {d : Array Int} {i j : Nat} (h : i ≤ j) (hp : p d[i]! = true) : Sort.scanUp p d j i = Sort.scanUp p d j (i + 1) := by
  conv => lhs; rw [Sort.scanUp, if_pos (by simp only [Bool.and_eq_true, decide_eq_true_eq]; exact ⟨h, hp⟩)]
theorem scanUp_end {p : Int → Bool} {d : Array Int} {i j : Nat} (h : ¬ (i ≤ j ∧ p d[i]! = true)) : Sort.scanUp p d j i = i := by
  rw [Sort.scanUp, if_neg (by simp only [Bool.and_eq_true, decide_eq_true_eq]; exact h)]
theorem scanDown_go {p : Int → Bool} {d : Array Int} {i j : Nat} (h : i ≤ j) (h0 : 0 < j) (hp : p d[j]! = true) : Sort.scanDown p d i j = Sort.scanDown p d i (j - 1) := by
  cases j with
  | zero => omega
  | succ j => rw [Sort.scanDown, if_pos (by simp only [Bool.and_eq_true, decide_eq_true_eq]; exact ⟨h, hp⟩)]; rfl
theorem scanDown_end {p : Int → Bool} {d : Array Int} {i j : Nat} (h : ¬ (i ≤ j ∧ p d[j]! = true)) : Sort.scanDown p d i j = j := by
  cases j with
  | zero => rfl
  | succ j => rw [Sort.scanDown, if_neg (by simp only [Bool.and_eq_true, decide_eq_true_eq]; exact h)]
theorem up_ge (p : Int → Bool) (d : Array Int) (j i : Nat) : i ≤ Sort.scanUp p d j i := (Sort.scanUp_spec p d j _ i rfl).1
theorem up_le (p : Int → Bool) (d : Array Int) (j i : Nat) (h : i ≤ j + 1) : Sort.scanUp p d j i ≤ j + 1 := (Sort.scanUp_spec p d j _ i rfl).2.1 h
theorem down_le (p : Int → Bool) (d : Array Int) (i j : Nat) : Sort.scanDown p d i j ≤ j := (Sort.scanDown_spec p d i j).1
theorem down_ge (p : Int → Bool) (d : Array Int) (i j : Nat) (h : i ≤ j + 1) : i ≤ Sort.scanDown p d i j + 1 := (Sort.scanDown_spec p d i j).2.1 h
theorem no_meet {p q : Int → Bool} (hq : ∀ x, q x = !p x) {d : Array Int} {i j I J : Nat} (hI : Sort.scanUp p d j i = I) (hJ : Sort.scanDown q d I j = J) (h0 : 0 < I) : I ≤ J → I < J := fun h => by
  rcases Nat.lt_or_ge I J with h1 | h1
  · exact h1
  · have e : I = J := by omega
    have a1 := (Sort.scanUp_spec p d j _ i rfl).2.2.2
    have a2 := (Sort.scanDown_spec q d I j).2.2.2
    have a3 := (Sort.scanDown_spec q d I j).1
    rw [hI] at a1
    rw [hJ] at a2 a3
    have b1 := a1 (by omega)
    have b2 := a2 (by omega) (by omega)
    rw [hq, ← e, b1] at b2
    cases b2

set_option maxHeartbeats 2000000 in
theorem partitionEqual_ok (g n cap a b pv : Nat) (d : Array Int) (sk : List Value) (Γ : List Ch) (hn : d.size = n) (hb : b ≤ n) (hn2 : n < 1152921504606846976) (ha : a ≤ pv) (hp : pv < b) :
    CallsX Try.prog 103 #[dV g n cap, .int .i64 a, .int .i64 b, .int .i64 pv] (dCh g d sk :: Γ) (fun v Δ => v = .int .i64 (Sort.partitionEqual Sort.ltInt d a b pv).1 ∧ Δ = dCh g (Sort.partitionEqual Sort.ltInt d a b pv).2 sk :: Γ) := by
  refine calls_of_body (args := [dV g n cap, .int .i64 a, .int .i64 b, .int .i64 pv]) Try.func103 rfl Try.ntmps103 fun X cs ret => ?_
  repeat (first|refine zA rfl ?_|refine zG rfl ?_|refine zQ ?_|refine zR ?_|refine zS ?_|refine zT (by decide+kernel) (by decide+kernel) ?_)
  refine rg_indexD (pv) rfl rfl (by first | with_reducible rfl | omega | (simp (disch := omega) only [wIn, td2, td4, td8]; done) | (simp (disch := omega) only [wIn, td2, td4, td8]; omega)) (by first | omega | (simp only [Array.size_setIfInBounds, Sort.swp_size]; omega)) ?_
  refine rg_loadD rfl (by first | omega | (simp only [Array.size_setIfInBounds, Sort.swp_size]; omega)) ?_
  repeat refine zA rfl ?_
  refine rg_indexD (a) rfl rfl (by first | with_reducible rfl | omega | (simp (disch := omega) only [wIn, td2, td4, td8]; done) | (simp (disch := omega) only [wIn, td2, td4, td8]; omega)) (by first | omega | (simp only [Array.size_setIfInBounds, Sort.swp_size]; omega)) ?_
  refine rg_loadD rfl (by first | omega | (simp only [Array.size_setIfInBounds, Sort.swp_size]; omega)) ?_
  skip
  refine rg_indexD (a) rfl rfl (by first | with_reducible rfl | omega | (simp (disch := omega) only [wIn, td2, td4, td8]; done) | (simp (disch := omega) only [wIn, td2, td4, td8]; omega)) (by first | omega | (simp only [Array.size_setIfInBounds, Sort.swp_size]; omega)) ?_
  refine rg_storeD rfl rfl (by first | omega | (simp only [Array.size_setIfInBounds, Sort.swp_size]; omega)) ?_
  skip
  refine rg_indexD (pv) rfl rfl (by first | with_reducible rfl | omega | (simp (disch := omega) only [wIn, td2, td4, td8]; done) | (simp (disch := omega) only [wIn, td2, td4, td8]; omega)) (by first | omega | (simp only [Array.size_setIfInBounds, Sort.swp_size]; omega)) ?_
  refine rg_storeD rfl rfl (by first | omega | (simp only [Array.size_setIfInBounds, Sort.swp_size]; omega)) ?_
  repeat (first|refine zA rfl ?_|refine zB rfl rfl rfl ?_|refine zG rfl ?_|refine zQ ?_|refine zR ?_|refine zS ?_|refine yC ?_)
  refine ex_loop ?_
  refine ex_ind (ι := Nat × Nat × Array Int) (fun s => s.2.1 + 1 - s.1) (fun s => [(9, .int .i64 s.1), (10, .int .i64 s.2.1), (0, dV g n cap), (1, .int .i64 a)]) (fun s => dCh g s.2.2 sk :: Γ)
    (fun s => s.2.2.size = n ∧ a < s.1 ∧ s.1 ≤ s.2.1 + 1 ∧ s.2.1 < n ∧ Sort.partEqLoop Sort.ltInt a s.1 s.2.1 s.2.2 = Sort.partitionEqual Sort.ltInt d a b pv) (a + 1, b - 1, Sort.swp d a pv) ⟨by rw [Sort.swp_size]; exact hn, by dsimp only; omega, by dsimp only; omega, by dsimp only; omega, rfl⟩ ⟨vi (by first | with_reducible rfl | omega | (simp (disch := omega) only [wIn]; done) | (simp (disch := omega) only [wIn]; omega)), vi (by first | with_reducible rfl | omega | (simp (disch := omega) only [wIn]; done) | (simp (disch := omega) only [wIn]; omega)), rfl, rfl, trivial⟩ rfl (fun ⟨i, j, e⟩ ⟨k1, k2, k3, k4, k5⟩ IHO => ?_)
  dsimp only at k1 k2 k3 k4 k5 ⊢
  rw [Sort.partEqLoop_eq] at k5
  obtain ⟨I, hI⟩ : ∃ I, Sort.scanUp (fun x => !Sort.ltInt e[a]! x) e j i = I := ⟨_, rfl⟩
  rw [hI] at k5
  obtain ⟨J, hJ⟩ : ∃ J, Sort.scanDown (fun x => Sort.ltInt e[a]! x) e I j = J := ⟨_, rfl⟩
  rw [hJ] at k5
  have m1 := hI ▸ up_ge _ e j i
  have m2 := hI ▸ up_le _ e j i k3
  have m3 := hJ ▸ down_le _ e I j
  have m4 := hJ ▸ down_ge _ e I j m2
  have m5 := no_meet (p := fun x => !Sort.ltInt e[a]! x) (q := fun x => Sort.ltInt e[a]! x) (fun x => by simp) hI hJ (by omega)
  repeat (first|refine zR ?_|refine yC ?_)
  apply joinC (ι := Unit) (fun _ => True) (fun _ => [(9, .int .i64 I), (10, .int .i64 j), (0, dV g n cap), (1, .int .i64 a)]) (fun _ => dCh g e sk :: Γ)
  · intro JJ
    refine ex_loop ?_
    refine ex_ind (ι := Nat) (fun i => j + 1 - i) (fun i => [(9, .int .i64 i), (10, .int .i64 j), (0, dV g n cap), (1, .int .i64 a)]) (fun _ => dCh g e sk :: Γ) (fun i => i ≤ i ∧ i ≤ j + 1 ∧ Sort.scanUp (fun x => !Sort.ltInt e[a]! x) e j i = I) i ⟨Nat.le_refl _, by omega, by rw [hI]⟩ ⟨rfl, rfl, rfl, rfl, trivial⟩ rfl (fun i ⟨h1, h2, h3⟩ IH => ?_)
    repeat (first|refine zA rfl ?_|refine zB rfl rfl rfl ?_|refine zR ?_|refine zT (by decide+kernel) (by decide+kernel) ?_)
    refine rg_caseG rfl rfl (fun h4 => ?_) (fun h4 => ?_)
    · have h4 := of_decide_eq_true h4
      repeat refine zA rfl ?_
      refine rg_indexD (a) rfl rfl (by first | with_reducible rfl | omega | (simp (disch := omega) only [wIn, td2, td4, td8]; done) | (simp (disch := omega) only [wIn, td2, td4, td8]; omega)) (by first | omega | (simp only [Array.size_setIfInBounds, Sort.swp_size]; omega)) ?_
      refine rg_loadD rfl (by first | omega | (simp only [Array.size_setIfInBounds, Sort.swp_size]; omega)) ?_
      repeat refine zA rfl ?_
      refine rg_indexD (i) rfl rfl (by first | with_reducible rfl | omega | (simp (disch := omega) only [wIn, td2, td4, td8]; done) | (simp (disch := omega) only [wIn, td2, td4, td8]; omega)) (by first | omega | (simp only [Array.size_setIfInBounds, Sort.swp_size]; omega)) ?_
      refine rg_loadD rfl (by first | omega | (simp only [Array.size_setIfInBounds, Sort.swp_size]; omega)) ?_
      refine rg_call rfl (less_ok _ _ _) ?_
      rintro _ _ ⟨rfl, rfl⟩
      refine ⟨.inr (by (repeat' first | exact trivial | refine ⟨.inl (by decide +kernel), ?_⟩)), ?_⟩
      repeat (first|refine zJ rfl ?_|refine zK rfl rfl ?_|refine zQ ?_)
      refine ex_cond_split rfl (fun h5 => ?_) (fun h5 => ?_)
      · repeat (first|refine yB ?_|refine yC ?_)
        refine rg_start_s ?_
        repeat (first|refine zA rfl ?_|refine zB rfl rfl rfl ?_|refine zG rfl ?_|refine zQ ?_|refine yD ?_)
        refine ex_inLoop ?_
        exact Ex.sup (IH (i + 1) ⟨by omega, by omega, by rw [← h3, scanUp_go (p := (fun x => !Sort.ltInt e[a]! x)) (d := e) (i := i) (j := j) (by omega) h5]⟩ (by omega)) ⟨vi (by first | with_reducible rfl | omega | (simp (disch := omega) only [wIn]; done) | (simp (disch := omega) only [wIn]; omega)), rfl, rfl, rfl, trivial⟩
      · repeat (first|refine zR ?_|refine yC ?_|refine yE rfl ?_)
        refine Ex.sup (JJ () trivial) ?_
        exact ⟨vi (congrArg _ (by rw [← h3, scanUp_end (p := (fun x => !Sort.ltInt e[a]! x)) (d := e) (i := i) (j := j) (fun h => by exact absurd h.2 (by simp only [h5]; decide))])), rfl, rfl, rfl, trivial⟩
    · have h4 := of_decide_eq_false h4
      repeat (first|refine zK rfl rfl ?_|refine zL rfl rfl rfl rfl (by decide) trivial rfl ?_|refine zQ ?_|refine zR ?_|refine zV rfl ?_|refine yC ?_|refine yE rfl ?_)
      refine Ex.sup (JJ () trivial) ?_
      exact ⟨vi (congrArg _ (by rw [← h3, scanUp_end (p := (fun x => !Sort.ltInt e[a]! x)) (d := e) (i := i) (j := j) (fun h => by exact h4 (by omega))])), rfl, rfl, rfl, trivial⟩
  rintro ⟨⟩ -
  skip
  apply joinC (ι := Unit) (fun _ => True) (fun _ => [(9, .int .i64 I), (10, .int .i64 J), (0, dV g n cap), (1, .int .i64 a)]) (fun _ => dCh g e sk :: Γ)
  · intro JJ
    refine ex_loop ?_
    refine ex_ind (ι := Nat) (fun i => i) (fun i => [(9, .int .i64 I), (10, .int .i64 i), (0, dV g n cap), (1, .int .i64 a)]) (fun _ => dCh g e sk :: Γ) (fun i => i ≤ j ∧ I ≤ i + 1 ∧ Sort.scanDown (fun x => Sort.ltInt e[a]! x) e I i = J) j ⟨Nat.le_refl _, by omega, by rw [hJ]⟩ ⟨rfl, rfl, rfl, rfl, trivial⟩ rfl (fun i ⟨h1, h2, h3⟩ IH => ?_)
    repeat (first|refine zA rfl ?_|refine zB rfl rfl rfl ?_|refine zR ?_|refine zT (by decide+kernel) (by decide+kernel) ?_)
    refine rg_caseG rfl rfl (fun h4 => ?_) (fun h4 => ?_)
    · have h4 := of_decide_eq_true h4
      repeat refine zA rfl ?_
      refine rg_indexD (a) rfl rfl (by first | with_reducible rfl | omega | (simp (disch := omega) only [wIn, td2, td4, td8]; done) | (simp (disch := omega) only [wIn, td2, td4, td8]; omega)) (by first | omega | (simp only [Array.size_setIfInBounds, Sort.swp_size]; omega)) ?_
      refine rg_loadD rfl (by first | omega | (simp only [Array.size_setIfInBounds, Sort.swp_size]; omega)) ?_
      repeat refine zA rfl ?_
      refine rg_indexD (i) rfl rfl (by first | with_reducible rfl | omega | (simp (disch := omega) only [wIn, td2, td4, td8]; done) | (simp (disch := omega) only [wIn, td2, td4, td8]; omega)) (by first | omega | (simp only [Array.size_setIfInBounds, Sort.swp_size]; omega)) ?_
      refine rg_loadD rfl (by first | omega | (simp only [Array.size_setIfInBounds, Sort.swp_size]; omega)) ?_
      refine rg_call rfl (less_ok _ _ _) ?_
      rintro _ _ ⟨rfl, rfl⟩
      refine ⟨.inr (by (repeat' first | exact trivial | refine ⟨.inl (by decide +kernel), ?_⟩)), ?_⟩
      repeat (first|refine zK rfl rfl ?_|refine zQ ?_)
      refine ex_cond_split rfl (fun h5 => ?_) (fun h5 => ?_)
      · repeat (first|refine yB ?_|refine yC ?_)
        refine rg_start_s ?_
        repeat (first|refine zA rfl ?_|refine zB rfl rfl rfl ?_|refine zG rfl ?_|refine zQ ?_|refine yD ?_)
        refine ex_inLoop ?_
        exact Ex.sup (IH (i - 1) ⟨by omega, by omega, by rw [← h3, scanDown_go (p := (fun x => Sort.ltInt e[a]! x)) (d := e) (i := I) (j := i) (by omega) (by omega) h5]⟩ (by omega)) ⟨rfl, vi (by first | with_reducible rfl | omega | (simp (disch := omega) only [wIn]; done) | (simp (disch := omega) only [wIn]; omega)), rfl, rfl, trivial⟩
      · repeat (first|refine zR ?_|refine yE rfl ?_)
        refine Ex.sup (JJ () trivial) ?_
        exact ⟨rfl, vi (congrArg _ (by rw [← h3, scanDown_end (p := (fun x => Sort.ltInt e[a]! x)) (d := e) (i := I) (j := i) (fun h => by exact absurd h.2 (by simp only [h5]; decide))])), rfl, rfl, trivial⟩
    · have h4 := of_decide_eq_false h4
      repeat (first|refine zK rfl rfl ?_|refine zL rfl rfl rfl rfl (by decide) trivial rfl ?_|refine zQ ?_|refine zR ?_|refine zV rfl ?_|refine yE rfl ?_)
      refine Ex.sup (JJ () trivial) ?_
      exact ⟨rfl, vi (congrArg _ (by rw [← h3, scanDown_end (p := (fun x => Sort.ltInt e[a]! x)) (d := e) (i := I) (j := i) (fun h => by exact h4 (by omega))])), rfl, rfl, trivial⟩
  rintro ⟨⟩ -
  repeat (first|refine zA rfl ?_|refine zB rfl rfl rfl ?_|refine zQ ?_|refine zS ?_)
  refine ex_cond_split rfl (fun h6 => ?_) (fun h6 => ?_)
  · have h6 := of_decide_eq_true h6
    rw [if_pos (by omega)] at k5
    rw [← k5] at ret
    repeat (first|refine zA rfl ?_|refine zG rfl ?_|refine zQ ?_|refine zR ?_|refine zS ?_|refine yE rfl ?_)
    exact ex_retc ret Try.func103 rfl ⟨rfl, rfl⟩
  · have h6 := of_decide_eq_false h6
    rw [if_neg (by omega)] at k5
    repeat (first|refine zA rfl ?_|refine zR ?_|refine zT (by decide+kernel) (by decide+kernel) ?_|refine yB ?_)
    refine rg_indexD (J) rfl rfl (by first | with_reducible rfl | omega | (simp (disch := omega) only [wIn, td2, td4, td8]; done) | (simp (disch := omega) only [wIn, td2, td4, td8]; omega)) (by first | omega | (simp only [Array.size_setIfInBounds, Sort.swp_size]; omega)) ?_
    refine rg_loadD rfl (by first | omega | (simp only [Array.size_setIfInBounds, Sort.swp_size]; omega)) ?_
    repeat refine zA rfl ?_
    refine rg_indexD (I) rfl rfl (by first | with_reducible rfl | omega | (simp (disch := omega) only [wIn, td2, td4, td8]; done) | (simp (disch := omega) only [wIn, td2, td4, td8]; omega)) (by first | omega | (simp only [Array.size_setIfInBounds, Sort.swp_size]; omega)) ?_
    refine rg_loadD rfl (by first | omega | (simp only [Array.size_setIfInBounds, Sort.swp_size]; omega)) ?_
    skip
    refine rg_indexD (I) rfl rfl (by first | with_reducible rfl | omega | (simp (disch := omega) only [wIn, td2, td4, td8]; done) | (simp (disch := omega) only [wIn, td2, td4, td8]; omega)) (by first | omega | (simp only [Array.size_setIfInBounds, Sort.swp_size]; omega)) ?_
    refine rg_storeD rfl rfl (by first | omega | (simp only [Array.size_setIfInBounds, Sort.swp_size]; omega)) ?_
    skip
    refine rg_indexD (J) rfl rfl (by first | with_reducible rfl | omega | (simp (disch := omega) only [wIn, td2, td4, td8]; done) | (simp (disch := omega) only [wIn, td2, td4, td8]; omega)) (by first | omega | (simp only [Array.size_setIfInBounds, Sort.swp_size]; omega)) ?_
    refine rg_storeD rfl rfl (by first | omega | (simp only [Array.size_setIfInBounds, Sort.swp_size]; omega)) ?_
    repeat (first|refine zA rfl ?_|refine zB rfl rfl rfl ?_|refine zG rfl ?_|refine zQ ?_|refine zR ?_|refine zS ?_|refine yD ?_)
    refine ex_inLoop ?_
    exact Ex.sup (IHO (I + 1, J - 1, Sort.swp e I J) ⟨by rw [Sort.swp_size]; exact k1, by dsimp only; omega, by dsimp only; omega, by dsimp only; omega, by exact k5⟩ (by dsimp only; omega)) ⟨vi (by first | with_reducible rfl | omega | (simp (disch := omega) only [wIn]; done) | (simp (disch := omega) only [wIn]; omega)), vi (by first | with_reducible rfl | omega | (simp (disch := omega) only [wIn]; done) | (simp (disch := omega) only [wIn]; omega)), rfl, rfl, trivial⟩

theorem partition_eq (d : Array Int) (a b pv : Nat) : Sort.partition Sort.ltInt d a b pv =
    if Sort.scanUp (fun x => Sort.ltInt x (Sort.swp d a pv)[a]!) (Sort.swp d a pv) (b - 1) (a + 1) > Sort.scanDown (fun x => !Sort.ltInt x (Sort.swp d a pv)[a]!) (Sort.swp d a pv) (Sort.scanUp (fun x => Sort.ltInt x (Sort.swp d a pv)[a]!) (Sort.swp d a pv) (b - 1) (a + 1)) (b - 1) then
      (Sort.scanDown (fun x => !Sort.ltInt x (Sort.swp d a pv)[a]!) (Sort.swp d a pv) (Sort.scanUp (fun x => Sort.ltInt x (Sort.swp d a pv)[a]!) (Sort.swp d a pv) (b - 1) (a + 1)) (b - 1), true, Sort.swp (Sort.swp d a pv) (Sort.scanDown (fun x => !Sort.ltInt x (Sort.swp d a pv)[a]!) (Sort.swp d a pv) (Sort.scanUp (fun x => Sort.ltInt x (Sort.swp d a pv)[a]!) (Sort.swp d a pv) (b - 1) (a + 1)) (b - 1)) a)
    else ((Sort.partLoop Sort.ltInt a (Sort.scanUp (fun x => Sort.ltInt x (Sort.swp d a pv)[a]!) (Sort.swp d a pv) (b - 1) (a + 1) + 1) (Sort.scanDown (fun x => !Sort.ltInt x (Sort.swp d a pv)[a]!) (Sort.swp d a pv) (Sort.scanUp (fun x => Sort.ltInt x (Sort.swp d a pv)[a]!) (Sort.swp d a pv) (b - 1) (a + 1)) (b - 1) - 1) (Sort.swp (Sort.swp d a pv) (Sort.scanUp (fun x => Sort.ltInt x (Sort.swp d a pv)[a]!) (Sort.swp d a pv) (b - 1) (a + 1)) (Sort.scanDown (fun x => !Sort.ltInt x (Sort.swp d a pv)[a]!) (Sort.swp d a pv) (Sort.scanUp (fun x => Sort.ltInt x (Sort.swp d a pv)[a]!) (Sort.swp d a pv) (b - 1) (a + 1)) (b - 1)))).1, false,
      Sort.swp (Sort.partLoop Sort.ltInt a (Sort.scanUp (fun x => Sort.ltInt x (Sort.swp d a pv)[a]!) (Sort.swp d a pv) (b - 1) (a + 1) + 1) (Sort.scanDown (fun x => !Sort.ltInt x (Sort.swp d a pv)[a]!) (Sort.swp d a pv) (Sort.scanUp (fun x => Sort.ltInt x (Sort.swp d a pv)[a]!) (Sort.swp d a pv) (b - 1) (a + 1)) (b - 1) - 1) (Sort.swp (Sort.swp d a pv) (Sort.scanUp (fun x => Sort.ltInt x (Sort.swp d a pv)[a]!) (Sort.swp d a pv) (b - 1) (a + 1)) (Sort.scanDown (fun x => !Sort.ltInt x (Sort.swp d a pv)[a]!) (Sort.swp d a pv) (Sort.scanUp (fun x => Sort.ltInt x (Sort.swp d a pv)[a]!) (Sort.swp d a pv) (b - 1) (a + 1)) (b - 1)))).2
        (Sort.partLoop Sort.ltInt a (Sort.scanUp (fun x => Sort.ltInt x (Sort.swp d a pv)[a]!) (Sort.swp d a pv) (b - 1) (a + 1) + 1) (Sort.scanDown (fun x => !Sort.ltInt x (Sort.swp d a pv)[a]!) (Sort.swp d a pv) (Sort.scanUp (fun x => Sort.ltInt x (Sort.swp d a pv)[a]!) (Sort.swp d a pv) (b - 1) (a + 1)) (b - 1) - 1) (Sort.swp (Sort.swp d a pv) (Sort.scanUp (fun x => Sort.ltInt x (Sort.swp d a pv)[a]!) (Sort.swp d a pv) (b - 1) (a + 1)) (Sort.scanDown (fun x => !Sort.ltInt x (Sort.swp d a pv)[a]!) (Sort.swp d a pv) (Sort.scanUp (fun x => Sort.ltInt x (Sort.swp d a pv)[a]!) (Sort.swp d a pv) (b - 1) (a + 1)) (b - 1)))).1 a) := rfl

set_option maxHeartbeats 4000000 in
theorem partition_ok (g n cap a b pv : Nat) (d : Array Int) (sk : List Value) (Γ : List Ch) (hn : d.size = n) (hb : b ≤ n) (hn2 : n < 1152921504606846976) (ha : a ≤ pv) (hp : pv < b) :
    CallsX Try.prog 104 #[dV g n cap, .int .i64 a, .int .i64 b, .int .i64 pv] (dCh g d sk :: Γ) (fun v Δ => v = .tuple #[.int .i64 (Sort.partition Sort.ltInt d a b pv).1, .bool (Sort.partition Sort.ltInt d a b pv).2.1] ∧ Δ = dCh g (Sort.partition Sort.ltInt d a b pv).2.2 sk :: Γ) := by
  refine calls_of_body (args := [dV g n cap, .int .i64 a, .int .i64 b, .int .i64 pv]) Try.func104 rfl Try.ntmps104 fun X cs ret => ?_
  have k5 := partition_eq d a b pv
  obtain ⟨e, he⟩ : ∃ e, Sort.swp d a pv = e := ⟨_, rfl⟩
  rw [he] at k5
  have k1 : e.size = n := by rw [← he, Sort.swp_size]; exact hn
  repeat (first|refine zA rfl ?_|refine zG rfl ?_|refine zQ ?_|refine zR ?_|refine zS ?_|refine zT (by decide+kernel) (by decide+kernel) ?_)
  refine rg_indexD (pv) rfl rfl (by first | with_reducible rfl | omega | (simp (disch := omega) only [wIn, td2, td4, td8]; done) | (simp (disch := omega) only [wIn, td2, td4, td8]; omega)) (by first | omega | (simp only [Array.size_setIfInBounds, Sort.swp_size]; omega)) ?_
  refine rg_loadD rfl (by first | omega | (simp only [Array.size_setIfInBounds, Sort.swp_size]; omega)) ?_
  repeat refine zA rfl ?_
  refine rg_indexD (a) rfl rfl (by first | with_reducible rfl | omega | (simp (disch := omega) only [wIn, td2, td4, td8]; done) | (simp (disch := omega) only [wIn, td2, td4, td8]; omega)) (by first | omega | (simp only [Array.size_setIfInBounds, Sort.swp_size]; omega)) ?_
  refine rg_loadD rfl (by first | omega | (simp only [Array.size_setIfInBounds, Sort.swp_size]; omega)) ?_
  skip
  refine rg_indexD (a) rfl rfl (by first | with_reducible rfl | omega | (simp (disch := omega) only [wIn, td2, td4, td8]; done) | (simp (disch := omega) only [wIn, td2, td4, td8]; omega)) (by first | omega | (simp only [Array.size_setIfInBounds, Sort.swp_size]; omega)) ?_
  refine rg_storeD rfl rfl (by first | omega | (simp only [Array.size_setIfInBounds, Sort.swp_size]; omega)) ?_
  skip
  refine rg_indexD (pv) rfl rfl (by first | with_reducible rfl | omega | (simp (disch := omega) only [wIn, td2, td4, td8]; done) | (simp (disch := omega) only [wIn, td2, td4, td8]; omega)) (by first | omega | (simp only [Array.size_setIfInBounds, Sort.swp_size]; omega)) ?_
  refine rg_storeD rfl rfl (by first | omega | (simp only [Array.size_setIfInBounds, Sort.swp_size]; omega)) ?_
  repeat (first|refine zA rfl ?_|refine zB rfl rfl rfl ?_|refine zG rfl ?_|refine zQ ?_|refine zR ?_|refine zS ?_|refine yC ?_)
  have he' : (d.setIfInBounds a d[pv]!).setIfInBounds pv d[a]! = e := he
  rw [he']
  obtain ⟨I, hI⟩ : ∃ I, Sort.scanUp (fun x => Sort.ltInt x e[a]!) e (b - 1) (a + 1) = I := ⟨_, rfl⟩
  rw [hI] at k5
  obtain ⟨J, hJ⟩ : ∃ J, Sort.scanDown (fun x => !Sort.ltInt x e[a]!) e I (b - 1) = J := ⟨_, rfl⟩
  rw [hJ] at k5
  have m1 := hI ▸ up_ge _ e (b - 1) (a + 1)
  have m2 := hI ▸ up_le _ e (b - 1) (a + 1) (by omega)
  have m3 := hJ ▸ down_le _ e I (b - 1)
  have m4 := hJ ▸ down_ge _ e I (b - 1) m2
  have m5 := no_meet (p := fun x => Sort.ltInt x e[a]!) (q := fun x => !Sort.ltInt x e[a]!) (fun x => rfl) hI hJ (by omega)
  refine Ex.sup (E' := [(10, .int .i64 (a + 1 : Nat)), (11, .int .i64 (b - 1 : Nat)), (0, dV g n cap), (1, .int .i64 a), (8, .int .i64 0), (9, .bool false)]) ?_ ⟨vi (by first | with_reducible rfl | omega | (simp (disch := omega) only [wIn]; done) | (simp (disch := omega) only [wIn]; omega)), vi (by first | with_reducible rfl | omega | (simp (disch := omega) only [wIn]; done) | (simp (disch := omega) only [wIn]; omega)), rfl, rfl, rfl, rfl, trivial⟩
  apply joinC (ι := Unit) (fun _ => True) (fun _ => [(10, .int .i64 I), (11, .int .i64 (b - 1 : Nat)), (0, dV g n cap), (1, .int .i64 a)]) (fun _ => dCh g e sk :: Γ)
  · intro JJ
    refine ex_loop ?_
    refine ex_ind (ι := Nat) (fun i => (b - 1) + 1 - i) (fun i => [(10, .int .i64 i), (11, .int .i64 (b - 1 : Nat)), (0, dV g n cap), (1, .int .i64 a)]) (fun _ => dCh g e sk :: Γ) (fun i => (a + 1) ≤ i ∧ i ≤ (b - 1) + 1 ∧ Sort.scanUp (fun x => Sort.ltInt x e[a]!) e (b - 1) i = I) (a + 1) ⟨Nat.le_refl _, by omega, by rw [hI]⟩ ⟨rfl, rfl, rfl, rfl, trivial⟩ rfl (fun i ⟨h1, h2, h3⟩ IH => ?_)
    repeat (first|refine zA rfl ?_|refine zB rfl rfl rfl ?_|refine zR ?_|refine zT (by decide+kernel) (by decide+kernel) ?_)
    refine rg_caseG rfl rfl (fun h4 => ?_) (fun h4 => ?_)
    · have h4 := of_decide_eq_true h4
      repeat refine zA rfl ?_
      refine rg_indexD (i) rfl rfl (by first | with_reducible rfl | omega | (simp (disch := omega) only [wIn, td2, td4, td8]; done) | (simp (disch := omega) only [wIn, td2, td4, td8]; omega)) (by first | omega | (simp only [Array.size_setIfInBounds, Sort.swp_size]; omega)) ?_
      refine rg_loadD rfl (by first | omega | (simp only [Array.size_setIfInBounds, Sort.swp_size]; omega)) ?_
      repeat refine zA rfl ?_
      refine rg_indexD (a) rfl rfl (by first | with_reducible rfl | omega | (simp (disch := omega) only [wIn, td2, td4, td8]; done) | (simp (disch := omega) only [wIn, td2, td4, td8]; omega)) (by first | omega | (simp only [Array.size_setIfInBounds, Sort.swp_size]; omega)) ?_
      refine rg_loadD rfl (by first | omega | (simp only [Array.size_setIfInBounds, Sort.swp_size]; omega)) ?_
      refine rg_call rfl (less_ok _ _ _) ?_
      rintro _ _ ⟨rfl, rfl⟩
      refine ⟨.inr (by (repeat' first | exact trivial | refine ⟨.inl (by decide +kernel), ?_⟩)), ?_⟩
      repeat (first|refine zK rfl rfl ?_|refine zQ ?_)
      refine ex_cond_split rfl (fun h5 => ?_) (fun h5 => ?_)
      · repeat (first|refine yB ?_|refine yC ?_)
        refine rg_start_s ?_
        repeat (first|refine zA rfl ?_|refine zB rfl rfl rfl ?_|refine zG rfl ?_|refine zQ ?_|refine yD ?_)
        refine ex_inLoop ?_
        exact Ex.sup (IH (i + 1) ⟨by omega, by omega, by rw [← h3, scanUp_go (p := (fun x => Sort.ltInt x e[a]!)) (d := e) (i := i) (j := (b - 1)) (by omega) h5]⟩ (by omega)) ⟨vi (by first | with_reducible rfl | omega | (simp (disch := omega) only [wIn]; done) | (simp (disch := omega) only [wIn]; omega)), rfl, rfl, rfl, trivial⟩
      · repeat (first|refine zR ?_|refine yC ?_|refine yE rfl ?_)
        refine Ex.sup (JJ () trivial) ?_
        exact ⟨vi (congrArg _ (by rw [← h3, scanUp_end (p := (fun x => Sort.ltInt x e[a]!)) (d := e) (i := i) (j := (b - 1)) (fun h => by exact absurd h.2 (by simp only [h5]; decide))])), rfl, rfl, rfl, trivial⟩
    · have h4 := of_decide_eq_false h4
      repeat (first|refine zK rfl rfl ?_|refine zL rfl rfl rfl rfl (by decide) trivial rfl ?_|refine zQ ?_|refine zR ?_|refine zV rfl ?_|refine yC ?_|refine yE rfl ?_)
      refine Ex.sup (JJ () trivial) ?_
      exact ⟨vi (congrArg _ (by rw [← h3, scanUp_end (p := (fun x => Sort.ltInt x e[a]!)) (d := e) (i := i) (j := (b - 1)) (fun h => by exact h4 (by omega))])), rfl, rfl, rfl, trivial⟩
  rintro ⟨⟩ -
  skip
  apply joinC (ι := Unit) (fun _ => True) (fun _ => [(10, .int .i64 I), (11, .int .i64 J), (0, dV g n cap), (1, .int .i64 a)]) (fun _ => dCh g e sk :: Γ)
  · intro JJ
    refine ex_loop ?_
    refine ex_ind (ι := Nat) (fun i => i) (fun i => [(10, .int .i64 I), (11, .int .i64 i), (0, dV g n cap), (1, .int .i64 a)]) (fun _ => dCh g e sk :: Γ) (fun i => i ≤ (b - 1) ∧ I ≤ i + 1 ∧ Sort.scanDown (fun x => !Sort.ltInt x e[a]!) e I i = J) (b - 1) ⟨Nat.le_refl _, by omega, by rw [hJ]⟩ ⟨rfl, rfl, rfl, rfl, trivial⟩ rfl (fun i ⟨h1, h2, h3⟩ IH => ?_)
    repeat (first|refine zA rfl ?_|refine zB rfl rfl rfl ?_|refine zR ?_|refine zT (by decide+kernel) (by decide+kernel) ?_)
    refine rg_caseG rfl rfl (fun h4 => ?_) (fun h4 => ?_)
    · have h4 := of_decide_eq_true h4
      repeat refine zA rfl ?_
      refine rg_indexD (i) rfl rfl (by first | with_reducible rfl | omega | (simp (disch := omega) only [wIn, td2, td4, td8]; done) | (simp (disch := omega) only [wIn, td2, td4, td8]; omega)) (by first | omega | (simp only [Array.size_setIfInBounds, Sort.swp_size]; omega)) ?_
      refine rg_loadD rfl (by first | omega | (simp only [Array.size_setIfInBounds, Sort.swp_size]; omega)) ?_
      repeat refine zA rfl ?_
      refine rg_indexD (a) rfl rfl (by first | with_reducible rfl | omega | (simp (disch := omega) only [wIn, td2, td4, td8]; done) | (simp (disch := omega) only [wIn, td2, td4, td8]; omega)) (by first | omega | (simp only [Array.size_setIfInBounds, Sort.swp_size]; omega)) ?_
      refine rg_loadD rfl (by first | omega | (simp only [Array.size_setIfInBounds, Sort.swp_size]; omega)) ?_
      refine rg_call rfl (less_ok _ _ _) ?_
      rintro _ _ ⟨rfl, rfl⟩
      refine ⟨.inr (by (repeat' first | exact trivial | refine ⟨.inl (by decide +kernel), ?_⟩)), ?_⟩
      repeat (first|refine zJ rfl ?_|refine zK rfl rfl ?_|refine zQ ?_)
      refine ex_cond_split rfl (fun h5 => ?_) (fun h5 => ?_)
      · repeat (first|refine yB ?_|refine yC ?_)
        refine rg_start_s ?_
        repeat (first|refine zA rfl ?_|refine zB rfl rfl rfl ?_|refine zG rfl ?_|refine zQ ?_|refine yD ?_)
        refine ex_inLoop ?_
        exact Ex.sup (IH (i - 1) ⟨by omega, by omega, by rw [← h3, scanDown_go (p := (fun x => !Sort.ltInt x e[a]!)) (d := e) (i := I) (j := i) (by omega) (by omega) h5]⟩ (by omega)) ⟨rfl, vi (by first | with_reducible rfl | omega | (simp (disch := omega) only [wIn]; done) | (simp (disch := omega) only [wIn]; omega)), rfl, rfl, trivial⟩
      · repeat (first|refine zR ?_|refine yE rfl ?_)
        refine Ex.sup (JJ () trivial) ?_
        exact ⟨rfl, vi (congrArg _ (by rw [← h3, scanDown_end (p := (fun x => !Sort.ltInt x e[a]!)) (d := e) (i := I) (j := i) (fun h => by exact absurd h.2 (by simp only [h5]; decide))])), rfl, rfl, trivial⟩
    · have h4 := of_decide_eq_false h4
      repeat (first|refine zK rfl rfl ?_|refine zL rfl rfl rfl rfl (by decide) trivial rfl ?_|refine zQ ?_|refine zR ?_|refine zV rfl ?_|refine yE rfl ?_)
      refine Ex.sup (JJ () trivial) ?_
      exact ⟨rfl, vi (congrArg _ (by rw [← h3, scanDown_end (p := (fun x => !Sort.ltInt x e[a]!)) (d := e) (i := I) (j := i) (fun h => by exact h4 (by omega))])), rfl, rfl, trivial⟩
  rintro ⟨⟩ -
  repeat (first|refine zA rfl ?_|refine zB rfl rfl rfl ?_|refine zQ ?_|refine zS ?_)
  refine ex_cond_split rfl (fun h6 => ?_) (fun h6 => ?_)
  · have h6 := of_decide_eq_true h6
    rw [if_pos (by omega)] at k5
    rw [k5] at ret
    repeat (first|refine zA rfl ?_|refine zR ?_|refine zT (by decide+kernel) (by decide+kernel) ?_)
    refine rg_indexD (a) rfl rfl (by first | with_reducible rfl | omega | (simp (disch := omega) only [wIn, td2, td4, td8]; done) | (simp (disch := omega) only [wIn, td2, td4, td8]; omega)) (by first | omega | (simp only [Array.size_setIfInBounds, Sort.swp_size]; omega)) ?_
    refine rg_loadD rfl (by first | omega | (simp only [Array.size_setIfInBounds, Sort.swp_size]; omega)) ?_
    repeat refine zA rfl ?_
    refine rg_indexD (J) rfl rfl (by first | with_reducible rfl | omega | (simp (disch := omega) only [wIn, td2, td4, td8]; done) | (simp (disch := omega) only [wIn, td2, td4, td8]; omega)) (by first | omega | (simp only [Array.size_setIfInBounds, Sort.swp_size]; omega)) ?_
    refine rg_loadD rfl (by first | omega | (simp only [Array.size_setIfInBounds, Sort.swp_size]; omega)) ?_
    skip
    refine rg_indexD (J) rfl rfl (by first | with_reducible rfl | omega | (simp (disch := omega) only [wIn, td2, td4, td8]; done) | (simp (disch := omega) only [wIn, td2, td4, td8]; omega)) (by first | omega | (simp only [Array.size_setIfInBounds, Sort.swp_size]; omega)) ?_
    refine rg_storeD rfl rfl (by first | omega | (simp only [Array.size_setIfInBounds, Sort.swp_size]; omega)) ?_
    skip
    refine rg_indexD (a) rfl rfl (by first | with_reducible rfl | omega | (simp (disch := omega) only [wIn, td2, td4, td8]; done) | (simp (disch := omega) only [wIn, td2, td4, td8]; omega)) (by first | omega | (simp only [Array.size_setIfInBounds, Sort.swp_size]; omega)) ?_
    refine rg_storeD rfl rfl (by first | omega | (simp only [Array.size_setIfInBounds, Sort.swp_size]; omega)) ?_
    repeat (first|refine zA rfl ?_|refine zG rfl ?_|refine zQ ?_|refine zR ?_|refine zS ?_)
    exact ex_retc ret Try.func104 rfl ⟨rfl, rfl⟩
  have h6 := of_decide_eq_false h6
  rw [if_neg (by omega)] at k5
  obtain ⟨R, hR⟩ : ∃ R, Sort.partLoop Sort.ltInt a (I + 1) (J - 1) (Sort.swp e I J) = R := ⟨_, rfl⟩
  rw [hR] at k5
  rw [k5] at ret
  clear k5
  repeat (first|refine zA rfl ?_|refine zR ?_|refine zT (by decide+kernel) (by decide+kernel) ?_|refine yB ?_)
  refine rg_indexD (J) rfl rfl (by first | with_reducible rfl | omega | (simp (disch := omega) only [wIn, td2, td4, td8]; done) | (simp (disch := omega) only [wIn, td2, td4, td8]; omega)) (by first | omega | (simp only [Array.size_setIfInBounds, Sort.swp_size]; omega)) ?_
  refine rg_loadD rfl (by first | omega | (simp only [Array.size_setIfInBounds, Sort.swp_size]; omega)) ?_
  repeat refine zA rfl ?_
  refine rg_indexD (I) rfl rfl (by first | with_reducible rfl | omega | (simp (disch := omega) only [wIn, td2, td4, td8]; done) | (simp (disch := omega) only [wIn, td2, td4, td8]; omega)) (by first | omega | (simp only [Array.size_setIfInBounds, Sort.swp_size]; omega)) ?_
  refine rg_loadD rfl (by first | omega | (simp only [Array.size_setIfInBounds, Sort.swp_size]; omega)) ?_
  skip
  refine rg_indexD (I) rfl rfl (by first | with_reducible rfl | omega | (simp (disch := omega) only [wIn, td2, td4, td8]; done) | (simp (disch := omega) only [wIn, td2, td4, td8]; omega)) (by first | omega | (simp only [Array.size_setIfInBounds, Sort.swp_size]; omega)) ?_
  refine rg_storeD rfl rfl (by first | omega | (simp only [Array.size_setIfInBounds, Sort.swp_size]; omega)) ?_
  skip
  refine rg_indexD (J) rfl rfl (by first | with_reducible rfl | omega | (simp (disch := omega) only [wIn, td2, td4, td8]; done) | (simp (disch := omega) only [wIn, td2, td4, td8]; omega)) (by first | omega | (simp only [Array.size_setIfInBounds, Sort.swp_size]; omega)) ?_
  refine rg_storeD rfl rfl (by first | omega | (simp only [Array.size_setIfInBounds, Sort.swp_size]; omega)) ?_
  repeat (first|refine zA rfl ?_|refine zB rfl rfl rfl ?_|refine zG rfl ?_|refine zQ ?_|refine zR ?_|refine zS ?_|refine yC ?_)
  refine ex_loop ?_
  refine ex_ind (ι := Nat × Nat × Array Int) (fun s => s.2.1 + 1 - s.1) (fun s => [(10, .int .i64 s.1), (11, .int .i64 s.2.1), (0, dV g n cap), (1, .int .i64 a)]) (fun s => dCh g s.2.2 sk :: Γ)
    (fun s => s.2.2.size = n ∧ a < s.1 ∧ s.1 ≤ s.2.1 + 1 ∧ s.2.1 < n ∧ Sort.partLoop Sort.ltInt a s.1 s.2.1 s.2.2 = R) (I + 1, J - 1, Sort.swp e I J) ⟨by rw [Sort.swp_size]; exact k1, by dsimp only; omega, by dsimp only; omega, by dsimp only; omega, by exact hR⟩ ⟨vi (by first | with_reducible rfl | omega | (simp (disch := omega) only [wIn]; done) | (simp (disch := omega) only [wIn]; omega)), vi (by first | with_reducible rfl | omega | (simp (disch := omega) only [wIn]; done) | (simp (disch := omega) only [wIn]; omega)), rfl, rfl, trivial⟩ rfl ?_
  rintro ⟨i, j, f⟩ ⟨k1, k2, k3, k4, k5⟩ IHO
  dsimp only at k1 k2 k3 k4 k5 ⊢
  rw [Sort.partLoop_eq] at k5
  obtain ⟨I, hI⟩ : ∃ I, Sort.scanUp (fun x => Sort.ltInt x f[a]!) f j i = I := ⟨_, rfl⟩
  rw [hI] at k5
  obtain ⟨J, hJ⟩ : ∃ J, Sort.scanDown (fun x => !Sort.ltInt x f[a]!) f I j = J := ⟨_, rfl⟩
  rw [hJ] at k5
  have m1 := hI ▸ up_ge _ f j i
  have m2 := hI ▸ up_le _ f j i k3
  have m3 := hJ ▸ down_le _ f I j
  have m4 := hJ ▸ down_ge _ f I j m2
  have m5 := no_meet (p := fun x => Sort.ltInt x f[a]!) (q := fun x => !Sort.ltInt x f[a]!) (fun x => rfl) hI hJ (by omega)
  repeat (first|refine zR ?_|refine yC ?_)
  apply joinC (ι := Unit) (fun _ => True) (fun _ => [(10, .int .i64 I), (11, .int .i64 j), (0, dV g n cap), (1, .int .i64 a)]) (fun _ => dCh g f sk :: Γ)
  · intro JJ
    refine ex_loop ?_
    refine ex_ind (ι := Nat) (fun i => j + 1 - i) (fun i => [(10, .int .i64 i), (11, .int .i64 j), (0, dV g n cap), (1, .int .i64 a)]) (fun _ => dCh g f sk :: Γ) (fun i => i ≤ i ∧ i ≤ j + 1 ∧ Sort.scanUp (fun x => Sort.ltInt x f[a]!) f j i = I) i ⟨Nat.le_refl _, by omega, by rw [hI]⟩ ⟨rfl, rfl, rfl, rfl, trivial⟩ rfl (fun i ⟨h1, h2, h3⟩ IH => ?_)
    repeat (first|refine zA rfl ?_|refine zB rfl rfl rfl ?_|refine zR ?_|refine zT (by decide+kernel) (by decide+kernel) ?_)
    refine rg_caseG rfl rfl (fun h4 => ?_) (fun h4 => ?_)
    · have h4 := of_decide_eq_true h4
      repeat refine zA rfl ?_
      refine rg_indexD (i) rfl rfl (by first | with_reducible rfl | omega | (simp (disch := omega) only [wIn, td2, td4, td8]; done) | (simp (disch := omega) only [wIn, td2, td4, td8]; omega)) (by first | omega | (simp only [Array.size_setIfInBounds, Sort.swp_size]; omega)) ?_
      refine rg_loadD rfl (by first | omega | (simp only [Array.size_setIfInBounds, Sort.swp_size]; omega)) ?_
      repeat refine zA rfl ?_
      refine rg_indexD (a) rfl rfl (by first | with_reducible rfl | omega | (simp (disch := omega) only [wIn, td2, td4, td8]; done) | (simp (disch := omega) only [wIn, td2, td4, td8]; omega)) (by first | omega | (simp only [Array.size_setIfInBounds, Sort.swp_size]; omega)) ?_
      refine rg_loadD rfl (by first | omega | (simp only [Array.size_setIfInBounds, Sort.swp_size]; omega)) ?_
      refine rg_call rfl (less_ok _ _ _) ?_
      rintro _ _ ⟨rfl, rfl⟩
      refine ⟨.inr (by (repeat' first | exact trivial | refine ⟨.inl (by decide +kernel), ?_⟩)), ?_⟩
      repeat (first|refine zK rfl rfl ?_|refine zQ ?_)
      refine ex_cond_split rfl (fun h5 => ?_) (fun h5 => ?_)
      · repeat (first|refine yB ?_|refine yC ?_)
        refine rg_start_s ?_
        repeat (first|refine zA rfl ?_|refine zB rfl rfl rfl ?_|refine zG rfl ?_|refine zQ ?_|refine yD ?_)
        refine ex_inLoop ?_
        exact Ex.sup (IH (i + 1) ⟨by omega, by omega, by rw [← h3, scanUp_go (p := (fun x => Sort.ltInt x f[a]!)) (d := f) (i := i) (j := j) (by omega) h5]⟩ (by omega)) ⟨vi (by first | with_reducible rfl | omega | (simp (disch := omega) only [wIn]; done) | (simp (disch := omega) only [wIn]; omega)), rfl, rfl, rfl, trivial⟩
      · repeat (first|refine zR ?_|refine yC ?_|refine yE rfl ?_)
        refine Ex.sup (JJ () trivial) ?_
        exact ⟨vi (congrArg _ (by rw [← h3, scanUp_end (p := (fun x => Sort.ltInt x f[a]!)) (d := f) (i := i) (j := j) (fun h => by exact absurd h.2 (by simp only [h5]; decide))])), rfl, rfl, rfl, trivial⟩
    · have h4 := of_decide_eq_false h4
      repeat (first|refine zK rfl rfl ?_|refine zL rfl rfl rfl rfl (by decide) trivial rfl ?_|refine zQ ?_|refine zR ?_|refine zV rfl ?_|refine yC ?_|refine yE rfl ?_)
      refine Ex.sup (JJ () trivial) ?_
      exact ⟨vi (congrArg _ (by rw [← h3, scanUp_end (p := (fun x => Sort.ltInt x f[a]!)) (d := f) (i := i) (j := j) (fun h => by exact h4 (by omega))])), rfl, rfl, rfl, trivial⟩
  rintro ⟨⟩ -
  skip
  apply joinC (ι := Unit) (fun _ => True) (fun _ => [(10, .int .i64 I), (11, .int .i64 J), (0, dV g n cap), (1, .int .i64 a)]) (fun _ => dCh g f sk :: Γ)
  · intro JJ
    refine ex_loop ?_
    refine ex_ind (ι := Nat) (fun i => i) (fun i => [(10, .int .i64 I), (11, .int .i64 i), (0, dV g n cap), (1, .int .i64 a)]) (fun _ => dCh g f sk :: Γ) (fun i => i ≤ j ∧ I ≤ i + 1 ∧ Sort.scanDown (fun x => !Sort.ltInt x f[a]!) f I i = J) j ⟨Nat.le_refl _, by omega, by rw [hJ]⟩ ⟨rfl, rfl, rfl, rfl, trivial⟩ rfl (fun i ⟨h1, h2, h3⟩ IH => ?_)
    repeat (first|refine zA rfl ?_|refine zB rfl rfl rfl ?_|refine zR ?_|refine zT (by decide+kernel) (by decide+kernel) ?_)
    refine rg_caseG rfl rfl (fun h4 => ?_) (fun h4 => ?_)
    · have h4 := of_decide_eq_true h4
      repeat refine zA rfl ?_
      refine rg_indexD (i) rfl rfl (by first | with_reducible rfl | omega | (simp (disch := omega) only [wIn, td2, td4, td8]; done) | (simp (disch := omega) only [wIn, td2, td4, td8]; omega)) (by first | omega | (simp only [Array.size_setIfInBounds, Sort.swp_size]; omega)) ?_
      refine rg_loadD rfl (by first | omega | (simp only [Array.size_setIfInBounds, Sort.swp_size]; omega)) ?_
      repeat refine zA rfl ?_
      refine rg_indexD (a) rfl rfl (by first | with_reducible rfl | omega | (simp (disch := omega) only [wIn, td2, td4, td8]; done) | (simp (disch := omega) only [wIn, td2, td4, td8]; omega)) (by first | omega | (simp only [Array.size_setIfInBounds, Sort.swp_size]; omega)) ?_
      refine rg_loadD rfl (by first | omega | (simp only [Array.size_setIfInBounds, Sort.swp_size]; omega)) ?_
      refine rg_call rfl (less_ok _ _ _) ?_
      rintro _ _ ⟨rfl, rfl⟩
      refine ⟨.inr (by (repeat' first | exact trivial | refine ⟨.inl (by decide +kernel), ?_⟩)), ?_⟩
      repeat (first|refine zJ rfl ?_|refine zK rfl rfl ?_|refine zQ ?_)
      refine ex_cond_split rfl (fun h5 => ?_) (fun h5 => ?_)
      · repeat (first|refine yB ?_|refine yC ?_)
        refine rg_start_s ?_
        repeat (first|refine zA rfl ?_|refine zB rfl rfl rfl ?_|refine zG rfl ?_|refine zQ ?_|refine yD ?_)
        refine ex_inLoop ?_
        exact Ex.sup (IH (i - 1) ⟨by omega, by omega, by rw [← h3, scanDown_go (p := (fun x => !Sort.ltInt x f[a]!)) (d := f) (i := I) (j := i) (by omega) (by omega) h5]⟩ (by omega)) ⟨rfl, vi (by first | with_reducible rfl | omega | (simp (disch := omega) only [wIn]; done) | (simp (disch := omega) only [wIn]; omega)), rfl, rfl, trivial⟩
      · repeat (first|refine zR ?_|refine yE rfl ?_)
        refine Ex.sup (JJ () trivial) ?_
        exact ⟨rfl, vi (congrArg _ (by rw [← h3, scanDown_end (p := (fun x => !Sort.ltInt x f[a]!)) (d := f) (i := I) (j := i) (fun h => by exact absurd h.2 (by simp only [h5]; decide))])), rfl, rfl, trivial⟩
    · have h4 := of_decide_eq_false h4
      repeat (first|refine zK rfl rfl ?_|refine zL rfl rfl rfl rfl (by decide) trivial rfl ?_|refine zQ ?_|refine zR ?_|refine zV rfl ?_|refine yE rfl ?_)
      refine Ex.sup (JJ () trivial) ?_
      exact ⟨rfl, vi (congrArg _ (by rw [← h3, scanDown_end (p := (fun x => !Sort.ltInt x f[a]!)) (d := f) (i := I) (j := i) (fun h => by exact h4 (by omega))])), rfl, rfl, trivial⟩
  rintro ⟨⟩ -
  repeat (first|refine zA rfl ?_|refine zB rfl rfl rfl ?_|refine zQ ?_|refine zS ?_)
  refine ex_cond_split rfl (fun h6 => ?_) (fun h6 => ?_)
  · have h6 := of_decide_eq_true h6
    rw [if_pos (by omega)] at k5
    rw [← k5] at ret
    dsimp only at ret
    repeat (first|refine zA rfl ?_|refine zR ?_|refine zT (by decide+kernel) (by decide+kernel) ?_|refine yE rfl ?_)
    refine rg_indexD (a) rfl rfl (by first | with_reducible rfl | omega | (simp (disch := omega) only [wIn, td2, td4, td8]; done) | (simp (disch := omega) only [wIn, td2, td4, td8]; omega)) (by first | omega | (simp only [Array.size_setIfInBounds, Sort.swp_size]; omega)) ?_
    refine rg_loadD rfl (by first | omega | (simp only [Array.size_setIfInBounds, Sort.swp_size]; omega)) ?_
    repeat refine zA rfl ?_
    refine rg_indexD (J) rfl rfl (by first | with_reducible rfl | omega | (simp (disch := omega) only [wIn, td2, td4, td8]; done) | (simp (disch := omega) only [wIn, td2, td4, td8]; omega)) (by first | omega | (simp only [Array.size_setIfInBounds, Sort.swp_size]; omega)) ?_
    refine rg_loadD rfl (by first | omega | (simp only [Array.size_setIfInBounds, Sort.swp_size]; omega)) ?_
    skip
    refine rg_indexD (J) rfl rfl (by first | with_reducible rfl | omega | (simp (disch := omega) only [wIn, td2, td4, td8]; done) | (simp (disch := omega) only [wIn, td2, td4, td8]; omega)) (by first | omega | (simp only [Array.size_setIfInBounds, Sort.swp_size]; omega)) ?_
    refine rg_storeD rfl rfl (by first | omega | (simp only [Array.size_setIfInBounds, Sort.swp_size]; omega)) ?_
    skip
    refine rg_indexD (a) rfl rfl (by first | with_reducible rfl | omega | (simp (disch := omega) only [wIn, td2, td4, td8]; done) | (simp (disch := omega) only [wIn, td2, td4, td8]; omega)) (by first | omega | (simp only [Array.size_setIfInBounds, Sort.swp_size]; omega)) ?_
    refine rg_storeD rfl rfl (by first | omega | (simp only [Array.size_setIfInBounds, Sort.swp_size]; omega)) ?_
    repeat (first|refine zA rfl ?_|refine zG rfl ?_|refine zQ ?_|refine zR ?_|refine zS ?_)
    exact ex_retc ret Try.func104 rfl ⟨rfl, rfl⟩
  · have h6 := of_decide_eq_false h6
    rw [if_neg (by omega)] at k5
    repeat (first|refine zA rfl ?_|refine zR ?_|refine zT (by decide+kernel) (by decide+kernel) ?_|refine yB ?_)
    refine rg_indexD (J) rfl rfl (by first | with_reducible rfl | omega | (simp (disch := omega) only [wIn, td2, td4, td8]; done) | (simp (disch := omega) only [wIn, td2, td4, td8]; omega)) (by first | omega | (simp only [Array.size_setIfInBounds, Sort.swp_size]; omega)) ?_
    refine rg_loadD rfl (by first | omega | (simp only [Array.size_setIfInBounds, Sort.swp_size]; omega)) ?_
    repeat refine zA rfl ?_
    refine rg_indexD (I) rfl rfl (by first | with_reducible rfl | omega | (simp (disch := omega) only [wIn, td2, td4, td8]; done) | (simp (disch := omega) only [wIn, td2, td4, td8]; omega)) (by first | omega | (simp only [Array.size_setIfInBounds, Sort.swp_size]; omega)) ?_
    refine rg_loadD rfl (by first | omega | (simp only [Array.size_setIfInBounds, Sort.swp_size]; omega)) ?_
    skip
    refine rg_indexD (I) rfl rfl (by first | with_reducible rfl | omega | (simp (disch := omega) only [wIn, td2, td4, td8]; done) | (simp (disch := omega) only [wIn, td2, td4, td8]; omega)) (by first | omega | (simp only [Array.size_setIfInBounds, Sort.swp_size]; omega)) ?_
    refine rg_storeD rfl rfl (by first | omega | (simp only [Array.size_setIfInBounds, Sort.swp_size]; omega)) ?_
    skip
    refine rg_indexD (J) rfl rfl (by first | with_reducible rfl | omega | (simp (disch := omega) only [wIn, td2, td4, td8]; done) | (simp (disch := omega) only [wIn, td2, td4, td8]; omega)) (by first | omega | (simp only [Array.size_setIfInBounds, Sort.swp_size]; omega)) ?_
    refine rg_storeD rfl rfl (by first | omega | (simp only [Array.size_setIfInBounds, Sort.swp_size]; omega)) ?_
    repeat (first|refine zA rfl ?_|refine zB rfl rfl rfl ?_|refine zG rfl ?_|refine zQ ?_|refine zR ?_|refine zS ?_|refine yD ?_)
    refine ex_inLoop ?_
    exact Ex.sup (IHO (I + 1, J - 1, Sort.swp f I J) ⟨by rw [Sort.swp_size]; exact k1, by dsimp only; omega, by dsimp only; omega, by dsimp only; omega, by exact k5⟩ (by dsimp only; omega)) ⟨vi (by first | with_reducible rfl | omega | (simp (disch := omega) only [wIn]; done) | (simp (disch := omega) only [wIn]; omega)), vi (by first | with_reducible rfl | omega | (simp (disch := omega) only [wIn]; done) | (simp (disch := omega) only [wIn]; omega)), rfl, rfl, trivial⟩

end Go.Br
