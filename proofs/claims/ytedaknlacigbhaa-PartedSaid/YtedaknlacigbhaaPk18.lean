/-
  Lemmas towards the law, proved without conditions of their own: The sort, 8: the partial insertion sort; The sort, 9: pdqsort; slices.Sort; Contracts: maps.Keys, slices.AppendSeq, Collect, Sorted at the map of packets: its keys, rising.
-/
import Derived.Test.YtedaknlacigbhaaPk17
import Derived.Test.YtedaknlacigbhaaPk07
import Derived.Test.YtedaknlacigbhaaPk11
namespace Go.Br
open Go Go.Lx Go.Proofs
open Go.Lx renaming rg_move → zA, rg_int → zB, rg_nilCheck → zC, rg_fieldAddr0 → zD, rg_fieldAddr → zE, rg_load → zF, rg_assign → zG, rg_loadAgg → zH, rg_extract → zI, rg_not → zJ, rg_pick → zK, rg_off → zL, rg_offU → zM, rg_store → zN, rg_storeAgg → zO, rg_convInt → zP, rg_done → zQ, ex_seq → zR, rg_start_s → zS, rg_start_d → zT, ex_cond_true → zU, ex_cond_false → zV, rg_alloc → zW, rg_boxAgg → zX, rg_build → zY, rg_lenSl → zZ, rg_lenMap → yA, ex_skip → yB, ex_block → yC, ex_inBlock → yD, ex_exit → yE, rg_caseG → yZ
set_option maxRecDepth 100000

theorem scanSorted_go {d : Array Int} {b i : Nat} (h : i < b) (hp : (!Sort.ltInt d[i]! d[i - 1]!) = true) : Sort.scanSorted Sort.ltInt d b i = Sort.scanSorted Sort.ltInt d b (i + 1) := by
  conv => lhs; rw [Sort.scanSorted, if_pos (by simp only [Bool.and_eq_true, decide_eq_true_eq]; exact ⟨h, hp⟩)]
theorem scanSorted_end {d : Array Int} {b i : Nat} (h : ¬ (i < b ∧ (!Sort.ltInt d[i]! d[i - 1]!) = true)) : Sort.scanSorted Sort.ltInt d b i = i := by
  rw [Sort.scanSorted, if_neg (by simp only [Bool.and_eq_true, decide_eq_true_eq]; exact h)]
theorem scanSorted_bd {d : Array Int} {b : Nat} : ∀ (k i : Nat), b - i = k → i ≤ b → i ≤ Sort.scanSorted Sort.ltInt d b i ∧ Sort.scanSorted Sort.ltInt d b i ≤ b := by
  intro k
  induction k with
  | zero => intro i h1 h2; rw [scanSorted_end (fun h => by omega)]; omega
  | succ k ih =>
    intro i h1 h2
    by_cases h : i < b ∧ (!Sort.ltInt d[i]! d[i - 1]!) = true
    · rw [scanSorted_go h.1 h.2]
      have := ih (i + 1) (by omega) (by omega)
      omega
    · rw [scanSorted_end h]; omega
theorem shiftDown_end {d : Array Int} {j : Nat} (h : ¬ (0 < j ∧ (!Sort.ltInt d[j]! d[j - 1]!) = false)) : Sort.shiftDown Sort.ltInt j d = d := by
  cases j with
  | zero => rfl
  | succ j =>
    rw [Sort.shiftDown]
    cases hl : Sort.ltInt d[j + 1]! d[j]! with
    | false => rfl
    | true => exact absurd ⟨by omega, by show (!Sort.ltInt d[j + 1]! d[j]!) = false; rw [hl]; rfl⟩ h
theorem shiftDown_go {d : Array Int} {j : Nat} (h : 0 < j) (hl : (!Sort.ltInt d[j]! d[j - 1]!) = false) : Sort.shiftDown Sort.ltInt j d = Sort.shiftDown Sort.ltInt (j - 1) (Sort.swp d j (j - 1)) := by
  cases j with
  | zero => omega
  | succ j =>
    conv => lhs; rw [Sort.shiftDown]
    have hl' : (!Sort.ltInt d[j + 1]! d[j]!) = false := hl
    rw [if_neg (by rw [hl']; decide)]; rfl
theorem shiftUp_end {d : Array Int} {b j : Nat} (h : ¬ (j < b ∧ (!Sort.ltInt d[j]! d[j - 1]!) = false)) : Sort.shiftUp Sort.ltInt b j d = d := by
  rw [Sort.shiftUp]
  split
  · rename_i h1
    cases hl : Sort.ltInt d[j]! d[j - 1]! with
    | false => rfl
    | true => exact absurd ⟨h1, by rw [hl]; rfl⟩ h
  · rfl
theorem shiftUp_go {d : Array Int} {b j : Nat} (h : j < b) (hl : (!Sort.ltInt d[j]! d[j - 1]!) = false) : Sort.shiftUp Sort.ltInt b j d = Sort.shiftUp Sort.ltInt b (j + 1) (Sort.swp d j (j - 1)) := by
  conv => lhs; rw [Sort.shiftUp]
  rw [if_pos h, if_neg (by rw [hl]; decide)]
theorem shiftDown_size : ∀ (j : Nat) (d : Array Int), (Sort.shiftDown Sort.ltInt j d).size = d.size := by
  intro j
  induction j with
  | zero => intro d; rfl
  | succ j ih => intro d; rw [Sort.shiftDown]; split; rfl; rw [ih, Sort.swp_size]
theorem shiftUp_size (b : Nat) : ∀ (k j : Nat) (d : Array Int), b - j = k → (Sort.shiftUp Sort.ltInt b j d).size = d.size := by
  intro k
  induction k with
  | zero => intro j d h; rw [shiftUp_end (fun h' => by omega)]
  | succ k ih =>
    intro j d h
    rw [Sort.shiftUp]
    split
    · split
      · rfl
      · rw [ih _ _ (by omega), Sort.swp_size]
    · rfl

set_option maxHeartbeats 4000000 in
theorem partialIns_ok (g n cap a b : Nat) (d : Array Int) (sk : List Value) (Γ : List Ch) (hn : d.size = n) (hb : b ≤ n) (hn2 : n < 1152921504606846976) (ha : a < b) :
    CallsX Try.prog 101 #[dV g n cap, .int .i64 a, .int .i64 b] (dCh g d sk :: Γ) (fun v Δ => v = .bool (Sort.partialInsertionSort Sort.ltInt d a b).2 ∧ Δ = dCh g (Sort.partialInsertionSort Sort.ltInt d a b).1 sk :: Γ) := by
  refine calls_of_body (args := [dV g n cap, .int .i64 a, .int .i64 b]) Try.func101 rfl Try.ntmps101 fun X cs ret => ?_
  repeat (first|refine zA rfl ?_|refine zB rfl rfl rfl ?_|refine zG rfl ?_|refine zQ ?_|refine zR ?_|refine zS ?_|refine yC ?_)
  refine ex_loop ?_
  refine ex_ind (ι := Nat × Nat × Array Int) (fun s => s.1) (fun s => [(7, .int .i64 s.2.1), (8, .int .i64 (5 - s.1 : Int)), (0, dV g n cap), (1, .int .i64 a), (2, .int .i64 b), (6, .bool false)]) (fun s => dCh g s.2.2 sk :: Γ)
    (fun s => s.2.2.size = n ∧ s.1 ≤ 5 ∧ a < s.2.1 ∧ s.2.1 ≤ b ∧ Sort.partialIns Sort.ltInt a b s.1 s.2.1 s.2.2 = Sort.partialInsertionSort Sort.ltInt d a b) (5, a + 1, d) ⟨hn, by exact Nat.le_refl _, by dsimp only; omega, by dsimp only; omega, rfl⟩ ⟨vi (by first | with_reducible rfl | omega | (simp (disch := omega) only [wIn]; done) | (simp (disch := omega) only [wIn]; omega)), vi (by first | with_reducible rfl | omega | (simp (disch := omega) only [wIn, td2, td4, td8]; done) | (simp (disch := omega) only [wIn, td2, td4, td8]; omega)), rfl, rfl, rfl, rfl, trivial⟩ rfl (fun ⟨s, i0, e⟩ ⟨k1, k2, k3, k4, k5⟩ IHO => ?_)
  dsimp only at k1 k2 k3 k4 k5 ⊢
  repeat (first|refine zA rfl ?_|refine zB rfl rfl rfl ?_|refine zQ ?_|refine zR ?_|refine zS ?_)
  refine ex_cond_split rfl (fun h4 => ?_) (fun h4 => ?_)
  rotate_left
  · have h4 := of_decide_eq_false h4
    have hs : s = 0 := by omega
    subst hs
    have k6 : Sort.partialInsertionSort Sort.ltInt d a b = (e, false) := k5.symm
    rw [k6] at ret
    repeat (first|refine zG rfl ?_|refine zQ ?_|refine zR ?_|refine zS ?_|refine yE rfl ?_)
    exact ex_retc ret Try.func101 rfl ⟨rfl, rfl⟩
  have h4 := of_decide_eq_true h4
  obtain ⟨s, rfl⟩ : ∃ s', s = s' + 1 := ⟨s - 1, by omega⟩
  rw [Sort.partialIns_succ] at k5
  obtain ⟨I, hI⟩ : ∃ I, Sort.scanSorted Sort.ltInt e b i0 = I := ⟨_, rfl⟩
  rw [hI] at k5
  have m1 := hI ▸ scanSorted_bd (d := e) (b - i0) i0 rfl k4
  repeat (first|refine zR ?_|refine yB ?_|refine yC ?_)
  apply joinC (ι := Unit) (fun _ => True) (fun _ => [(7, .int .i64 I), (8, .int .i64 (5 - (s + 1 : Nat) : Int)), (0, dV g n cap), (1, .int .i64 a), (2, .int .i64 b), (6, .bool false)]) (fun _ => dCh g e sk :: Γ)
  · intro JJ
    refine ex_loop ?_
    refine ex_ind (ι := Nat) (fun i => b - i) (fun i => [(7, .int .i64 i), (8, .int .i64 (5 - (s + 1 : Nat) : Int)), (0, dV g n cap), (1, .int .i64 a), (2, .int .i64 b), (6, .bool false)]) (fun _ => dCh g e sk :: Γ) (fun i => a < i ∧ i ≤ b ∧ Sort.scanSorted Sort.ltInt e b i = I) i0 ⟨k3, k4, hI⟩ ⟨rfl, rfl, rfl, rfl, rfl, rfl, trivial⟩ rfl (fun i ⟨h1, h2, h3⟩ IH => ?_)
    repeat (first|refine zA rfl ?_|refine zB rfl rfl rfl ?_|refine zR ?_|refine zT (by decide+kernel) (by decide+kernel) ?_)
    refine rg_caseG rfl rfl (fun h5 => ?_) (fun h5 => ?_)
    · have h5 := of_decide_eq_true h5
      repeat refine zA rfl ?_
      refine rg_indexD (i) rfl rfl (by first | with_reducible rfl | omega | (simp (disch := omega) only [wIn, td2, td4, td8]; done) | (simp (disch := omega) only [wIn, td2, td4, td8]; omega)) (by first | omega | (simp only [Array.size_setIfInBounds, Sort.swp_size]; omega)) ?_
      refine rg_loadD rfl (by first | omega | (simp only [Array.size_setIfInBounds, Sort.swp_size]; omega)) ?_
      repeat (first|refine zA rfl ?_|refine zB rfl rfl rfl ?_)
      refine rg_indexD (i - 1) rfl rfl (by first | with_reducible rfl | omega | (simp (disch := omega) only [wIn]; done) | (simp (disch := omega) only [wIn]; omega)) (by first | omega | (simp only [Array.size_setIfInBounds, Sort.swp_size]; omega)) ?_
      refine rg_loadD rfl (by first | omega | (simp only [Array.size_setIfInBounds, Sort.swp_size]; omega)) ?_
      refine rg_call rfl (less_ok _ _ _) ?_
      rintro _ _ ⟨rfl, rfl⟩
      refine ⟨.inr (by (repeat' first | exact trivial | refine ⟨.inl (by decide +kernel), ?_⟩)), ?_⟩
      repeat (first|refine zJ rfl ?_|refine zK rfl rfl ?_|refine zQ ?_)
      refine ex_cond_split rfl (fun h6 => ?_) (fun h6 => ?_)
      · repeat (first|refine yB ?_|refine yC ?_)
        refine rg_start_s ?_
        repeat (first|refine zA rfl ?_|refine zB rfl rfl rfl ?_|refine zG rfl ?_|refine zQ ?_|refine yD ?_)
        refine ex_inLoop ?_
        exact Ex.sup (IH (i + 1) ⟨by omega, by omega, by rw [← scanSorted_go (d := e) (b := b) (i := i) (by omega) h6]; exact h3⟩ (by omega)) ⟨vi (by first | with_reducible rfl | omega | (simp (disch := omega) only [wIn]; done) | (simp (disch := omega) only [wIn]; omega)), rfl, rfl, rfl, rfl, rfl, trivial⟩
      · repeat (first|refine zR ?_|refine yE rfl ?_)
        refine Ex.sup (JJ () trivial) ?_
        exact ⟨vi (congrArg _ (by rw [← h3, scanSorted_end (d := e) (b := b) (i := i) (fun h => by rw [h6] at h; exact absurd h.2 (by decide))])), rfl, rfl, rfl, rfl, rfl, trivial⟩
    · have h5 := of_decide_eq_false h5
      repeat (first|refine zK rfl rfl ?_|refine zL rfl rfl rfl rfl (by decide) trivial rfl ?_|refine zQ ?_|refine zR ?_|refine zV rfl ?_|refine yE rfl ?_)
      refine Ex.sup (JJ () trivial) ?_
      exact ⟨vi (congrArg _ (by rw [← h3, scanSorted_end (d := e) (b := b) (i := i) (fun h => by omega)])), rfl, rfl, rfl, rfl, rfl, trivial⟩
  rintro ⟨⟩ -
  repeat (first|refine zA rfl ?_|refine zB rfl rfl rfl ?_|refine zQ ?_|refine zS ?_)
  refine ex_cond_split rfl (fun h5 => ?_) (fun h5 => ?_)
  · have h5 := of_decide_eq_true h5
    rw [if_pos (by omega)] at k5
    rw [← k5] at ret
    repeat (first|refine zG rfl ?_|refine zQ ?_|refine zR ?_|refine zS ?_)
    exact ex_retc ret Try.func101 rfl ⟨rfl, rfl⟩
  have h5 := of_decide_eq_false h5
  rw [if_neg (by omega)] at k5
  repeat (first|refine zA rfl ?_|refine zB rfl rfl rfl ?_|refine zQ ?_|refine zR ?_|refine zS ?_|refine yB ?_)
  refine ex_cond_split rfl (fun h6 => ?_) (fun h6 => ?_)
  · have h6 := of_decide_eq_true h6
    simp (disch := omega) only [wIn] at h6
    rw [if_pos (by omega)] at k5
    rw [← k5] at ret
    repeat (first|refine zG rfl ?_|refine zQ ?_|refine zR ?_|refine zS ?_)
    exact ex_retc ret Try.func101 rfl ⟨rfl, rfl⟩
  have h6 := of_decide_eq_false h6
  simp (disch := omega) only [wIn] at h6
  rw [if_neg (by omega)] at k5
  repeat (first|refine zA rfl ?_|refine zB rfl rfl rfl ?_|refine zR ?_|refine zT (by decide+kernel) (by decide+kernel) ?_|refine yB ?_)
  refine rg_indexD (I - 1) rfl rfl (by first | with_reducible rfl | omega | (simp (disch := omega) only [wIn]; done) | (simp (disch := omega) only [wIn]; omega)) (by first | omega | (simp only [Array.size_setIfInBounds, Sort.swp_size]; omega)) ?_
  refine rg_loadD rfl (by first | omega | (simp only [Array.size_setIfInBounds, Sort.swp_size]; omega)) ?_
  repeat refine zA rfl ?_
  refine rg_indexD (I) rfl rfl (by first | with_reducible rfl | omega | (simp (disch := omega) only [wIn, td2, td4, td8]; done) | (simp (disch := omega) only [wIn, td2, td4, td8]; omega)) (by first | omega | (simp only [Array.size_setIfInBounds, Sort.swp_size]; omega)) ?_
  refine rg_loadD rfl (by first | omega | (simp only [Array.size_setIfInBounds, Sort.swp_size]; omega)) ?_
  skip
  refine rg_indexD (I) rfl rfl (by first | with_reducible rfl | omega | (simp (disch := omega) only [wIn, td2, td4, td8]; done) | (simp (disch := omega) only [wIn, td2, td4, td8]; omega)) (by first | omega | (simp only [Array.size_setIfInBounds, Sort.swp_size]; omega)) ?_
  refine rg_storeD rfl rfl (by first | omega | (simp only [Array.size_setIfInBounds, Sort.swp_size]; omega)) ?_
  skip
  refine rg_indexD (I - 1) rfl rfl (by first | with_reducible rfl | omega | (simp (disch := omega) only [wIn]; done) | (simp (disch := omega) only [wIn]; omega)) (by first | omega | (simp only [Array.size_setIfInBounds, Sort.swp_size]; omega)) ?_
  refine rg_storeD rfl rfl (by first | omega | (simp only [Array.size_setIfInBounds, Sort.swp_size]; omega)) ?_
  repeat (first|refine zA rfl ?_|refine zB rfl rfl rfl ?_|refine zQ ?_|refine zR ?_|refine zS ?_)
  obtain ⟨f, hf⟩ : ∃ f, Sort.swp e I (I - 1) = f := ⟨_, rfl⟩
  have hf' : (e.setIfInBounds I e[I - 1]!).setIfInBounds (I - 1) e[I]! = f := hf
  rw [hf']
  rw [hf] at k5
  have l1 : f.size = n := by rw [← hf, Sort.swp_size]; exact k1
  obtain ⟨f2, hf2⟩ : ∃ f2, Sort.fixDown Sort.ltInt a I f = f2 := ⟨_, rfl⟩
  rw [hf2] at k5
  have l2 : f2.size = n := by
    rw [← hf2]; unfold Sort.fixDown; split
    · rw [shiftDown_size]; exact l1
    · exact l1
  obtain ⟨f3, hf3⟩ : ∃ f3, Sort.fixUp Sort.ltInt b I f2 = f3 := ⟨_, rfl⟩
  rw [hf3] at k5
  have l3 : f3.size = n := by
    rw [← hf3]; unfold Sort.fixUp; split
    · rw [shiftUp_size _ _ _ _ rfl]; exact l2
    · exact l2
  apply joinC (ι := Unit) (fun _ => True) (fun _ => [(7, .int .i64 I), (8, .int .i64 (5 - (s + 1 : Nat) : Int)), (0, dV g n cap), (1, .int .i64 a), (2, .int .i64 b), (6, .bool false)]) (fun _ => dCh g f2 sk :: Γ)
  · intro JJ
    refine ex_cond_split rfl (fun h7 => ?_) (fun h7 => ?_)
    · have h7 := of_decide_eq_true h7
      simp (disch := omega) only [wIn] at h7
      have hf2' : Sort.shiftDown Sort.ltInt (I - 1) f = f2 := by rw [← hf2]; unfold Sort.fixDown; rw [if_pos (by omega)]
      repeat (first|refine zA rfl ?_|refine zB rfl rfl rfl ?_|refine zG rfl ?_|refine zQ ?_|refine zR ?_|refine zS ?_|refine yC ?_)
      refine ex_loop ?_
      refine ex_ind (ι := Nat × Array Int) (fun q => q.1) (fun q => [(9, .int .i64 q.1), (7, .int .i64 I), (8, .int .i64 (5 - (s + 1 : Nat) : Int)), (0, dV g n cap), (1, .int .i64 a), (2, .int .i64 b), (6, .bool false)]) (fun q => dCh g q.2 sk :: Γ) (fun q => q.2.size = n ∧ q.1 < n ∧ Sort.shiftDown Sort.ltInt q.1 q.2 = f2) (I - 1, f) ⟨l1, by dsimp only; omega, hf2'⟩ ⟨vi (by first | with_reducible rfl | omega | (simp (disch := omega) only [wIn]; done) | (simp (disch := omega) only [wIn]; omega)), rfl, rfl, rfl, rfl, rfl, rfl, trivial⟩ rfl (fun ⟨j, q⟩ ⟨h1, h2, h3⟩ IH => ?_)
      dsimp only at h1 h2 h3 ⊢
      repeat (first|refine zA rfl ?_|refine zB rfl rfl rfl ?_|refine zQ ?_|refine zR ?_|refine zS ?_)
      refine ex_cond_split rfl (fun h8 => ?_) (fun h8 => ?_)
      · have h8 := of_decide_eq_true h8
        repeat (first|refine zA rfl ?_|refine zR ?_|refine zT (by decide+kernel) (by decide+kernel) ?_|refine yB ?_|refine yC ?_)
        refine rg_indexD (j) rfl rfl (by first | with_reducible rfl | omega | (simp (disch := omega) only [wIn, td2, td4, td8]; done) | (simp (disch := omega) only [wIn, td2, td4, td8]; omega)) (by first | omega | (simp only [Array.size_setIfInBounds, Sort.swp_size]; omega)) ?_
        refine rg_loadD rfl (by first | omega | (simp only [Array.size_setIfInBounds, Sort.swp_size]; omega)) ?_
        repeat (first|refine zA rfl ?_|refine zB rfl rfl rfl ?_)
        refine rg_indexD (j - 1) rfl rfl (by first | with_reducible rfl | omega | (simp (disch := omega) only [wIn]; done) | (simp (disch := omega) only [wIn]; omega)) (by first | omega | (simp only [Array.size_setIfInBounds, Sort.swp_size]; omega)) ?_
        refine rg_loadD rfl (by first | omega | (simp only [Array.size_setIfInBounds, Sort.swp_size]; omega)) ?_
        refine rg_call rfl (less_ok _ _ _) ?_
        rintro _ _ ⟨rfl, rfl⟩
        refine ⟨.inr (by (repeat' first | exact trivial | refine ⟨.inl (by decide +kernel), ?_⟩)), ?_⟩
        repeat (first|refine zJ rfl ?_|refine zQ ?_)
        refine ex_cond_split rfl (fun h9 => ?_) (fun h9 => ?_)
        · have e1 : f2 = q := by rw [← h3, shiftDown_end (fun h => by rw [h9] at h; exact absurd h.2 (by decide))]
          repeat (first|refine zR ?_|refine yE rfl ?_)
          rw [← e1]
          refine Ex.sup (JJ () trivial) ?_
          exact ⟨rfl, rfl, rfl, rfl, rfl, rfl, trivial⟩
        · repeat (first|refine zA rfl ?_|refine zB rfl rfl rfl ?_|refine zT (by decide+kernel) (by decide+kernel) ?_|refine yB ?_)
          refine rg_indexD (j - 1) rfl rfl (by first | with_reducible rfl | omega | (simp (disch := omega) only [wIn]; done) | (simp (disch := omega) only [wIn]; omega)) (by first | omega | (simp only [Array.size_setIfInBounds, Sort.swp_size]; omega)) ?_
          refine rg_loadD rfl (by first | omega | (simp only [Array.size_setIfInBounds, Sort.swp_size]; omega)) ?_
          repeat refine zA rfl ?_
          refine rg_indexD (j) rfl rfl (by first | with_reducible rfl | omega | (simp (disch := omega) only [wIn, td2, td4, td8]; done) | (simp (disch := omega) only [wIn, td2, td4, td8]; omega)) (by first | omega | (simp only [Array.size_setIfInBounds, Sort.swp_size]; omega)) ?_
          refine rg_loadD rfl (by first | omega | (simp only [Array.size_setIfInBounds, Sort.swp_size]; omega)) ?_
          skip
          refine rg_indexD (j) rfl rfl (by first | with_reducible rfl | omega | (simp (disch := omega) only [wIn, td2, td4, td8]; done) | (simp (disch := omega) only [wIn, td2, td4, td8]; omega)) (by first | omega | (simp only [Array.size_setIfInBounds, Sort.swp_size]; omega)) ?_
          refine rg_storeD rfl rfl (by first | omega | (simp only [Array.size_setIfInBounds, Sort.swp_size]; omega)) ?_
          skip
          refine rg_indexD (j - 1) rfl rfl (by first | with_reducible rfl | omega | (simp (disch := omega) only [wIn]; done) | (simp (disch := omega) only [wIn]; omega)) (by first | omega | (simp only [Array.size_setIfInBounds, Sort.swp_size]; omega)) ?_
          refine rg_storeD rfl rfl (by first | omega | (simp only [Array.size_setIfInBounds, Sort.swp_size]; omega)) ?_
          repeat (first|refine zA rfl ?_|refine zB rfl rfl rfl ?_|refine zG rfl ?_|refine zQ ?_|refine zS ?_|refine yD ?_)
          refine ex_inLoop ?_
          exact Ex.sup (IH (j - 1, Sort.swp q j (j - 1)) ⟨by rw [Sort.swp_size]; exact h1, by dsimp only; omega, by dsimp only; rw [← shiftDown_go (by omega) h9]; exact h3⟩ (by dsimp only; omega)) ⟨vi (by first | with_reducible rfl | omega | (simp (disch := omega) only [wIn]; done) | (simp (disch := omega) only [wIn]; omega)), rfl, rfl, rfl, rfl, rfl, rfl, trivial⟩
      · have h8 := of_decide_eq_false h8
        have e1 : f2 = q := by rw [← h3, shiftDown_end (fun h => by omega)]
        repeat (first|refine zR ?_|refine yE rfl ?_)
        rw [← e1]
        refine Ex.sup (JJ () trivial) ?_
        exact ⟨rfl, rfl, rfl, rfl, rfl, rfl, trivial⟩
    · have h7 := of_decide_eq_false h7
      simp (disch := omega) only [wIn] at h7
      have e1 : f2 = f := by rw [← hf2]; unfold Sort.fixDown; rw [if_neg (by omega)]
      repeat (first|refine zR ?_|refine yB ?_)
      rw [← e1]
      refine Ex.sup (JJ () trivial) ?_
      exact ⟨rfl, rfl, rfl, rfl, rfl, rfl, trivial⟩
  rintro ⟨⟩ -
  refine rg_start_s ?_
  repeat (first|refine zA rfl ?_|refine zB rfl rfl rfl ?_|refine zQ ?_)
  apply joinC (ι := Unit) (fun _ => True) (fun _ => [(7, .int .i64 I), (8, .int .i64 (5 - (s + 1 : Nat) : Int)), (0, dV g n cap), (1, .int .i64 a), (2, .int .i64 b), (6, .bool false)]) (fun _ => dCh g f3 sk :: Γ)
  · intro JJ
    refine ex_cond_split rfl (fun h7 => ?_) (fun h7 => ?_)
    · have h7 := of_decide_eq_true h7
      simp (disch := omega) only [wIn] at h7
      have hf3' : Sort.shiftUp Sort.ltInt b (I + 1) f2 = f3 := by rw [← hf3]; unfold Sort.fixUp; rw [if_pos (by omega)]
      repeat (first|refine zA rfl ?_|refine zB rfl rfl rfl ?_|refine zG rfl ?_|refine zQ ?_|refine zR ?_|refine zS ?_|refine yC ?_)
      refine ex_loop ?_
      refine ex_ind (ι := Nat × Array Int) (fun q => b - q.1) (fun q => [(10, .int .i64 q.1), (7, .int .i64 I), (8, .int .i64 (5 - (s + 1 : Nat) : Int)), (0, dV g n cap), (1, .int .i64 a), (2, .int .i64 b), (6, .bool false)]) (fun q => dCh g q.2 sk :: Γ) (fun q => q.2.size = n ∧ 0 < q.1 ∧ q.1 ≤ b ∧ Sort.shiftUp Sort.ltInt b q.1 q.2 = f3) (I + 1, f2) ⟨l2, by dsimp only; omega, by dsimp only; omega, hf3'⟩ ⟨vi (by first | with_reducible rfl | omega | (simp (disch := omega) only [wIn]; done) | (simp (disch := omega) only [wIn]; omega)), rfl, rfl, rfl, rfl, rfl, rfl, trivial⟩ rfl (fun ⟨j, q⟩ ⟨h1, h2, h2', h3⟩ IH => ?_)
      dsimp only at h1 h2 h2' h3 ⊢
      repeat (first|refine zA rfl ?_|refine zB rfl rfl rfl ?_|refine zQ ?_|refine zR ?_|refine zS ?_)
      refine ex_cond_split rfl (fun h8 => ?_) (fun h8 => ?_)
      · have h8 := of_decide_eq_true h8
        repeat (first|refine zA rfl ?_|refine zR ?_|refine zT (by decide+kernel) (by decide+kernel) ?_|refine yB ?_|refine yC ?_)
        refine rg_indexD (j) rfl rfl (by first | with_reducible rfl | omega | (simp (disch := omega) only [wIn, td2, td4, td8]; done) | (simp (disch := omega) only [wIn, td2, td4, td8]; omega)) (by first | omega | (simp only [Array.size_setIfInBounds, Sort.swp_size]; omega)) ?_
        refine rg_loadD rfl (by first | omega | (simp only [Array.size_setIfInBounds, Sort.swp_size]; omega)) ?_
        repeat (first|refine zA rfl ?_|refine zB rfl rfl rfl ?_)
        refine rg_indexD (j - 1) rfl rfl (by first | with_reducible rfl | omega | (simp (disch := omega) only [wIn]; done) | (simp (disch := omega) only [wIn]; omega)) (by first | omega | (simp only [Array.size_setIfInBounds, Sort.swp_size]; omega)) ?_
        refine rg_loadD rfl (by first | omega | (simp only [Array.size_setIfInBounds, Sort.swp_size]; omega)) ?_
        refine rg_call rfl (less_ok _ _ _) ?_
        rintro _ _ ⟨rfl, rfl⟩
        refine ⟨.inr (by (repeat' first | exact trivial | refine ⟨.inl (by decide +kernel), ?_⟩)), ?_⟩
        repeat (first|refine zJ rfl ?_|refine zQ ?_)
        refine ex_cond_split rfl (fun h9 => ?_) (fun h9 => ?_)
        · have e1 : f3 = q := by rw [← h3, shiftUp_end (fun h => by rw [h9] at h; exact absurd h.2 (by decide))]
          repeat (first|refine yD ?_|refine yE rfl ?_)
          rw [← e1]
          refine Ex.sup (JJ () trivial) ?_
          exact ⟨rfl, rfl, rfl, rfl, rfl, rfl, trivial⟩
        · repeat (first|refine zA rfl ?_|refine zB rfl rfl rfl ?_|refine zT (by decide+kernel) (by decide+kernel) ?_|refine yB ?_)
          refine rg_indexD (j - 1) rfl rfl (by first | with_reducible rfl | omega | (simp (disch := omega) only [wIn]; done) | (simp (disch := omega) only [wIn]; omega)) (by first | omega | (simp only [Array.size_setIfInBounds, Sort.swp_size]; omega)) ?_
          refine rg_loadD rfl (by first | omega | (simp only [Array.size_setIfInBounds, Sort.swp_size]; omega)) ?_
          repeat refine zA rfl ?_
          refine rg_indexD (j) rfl rfl (by first | with_reducible rfl | omega | (simp (disch := omega) only [wIn, td2, td4, td8]; done) | (simp (disch := omega) only [wIn, td2, td4, td8]; omega)) (by first | omega | (simp only [Array.size_setIfInBounds, Sort.swp_size]; omega)) ?_
          refine rg_loadD rfl (by first | omega | (simp only [Array.size_setIfInBounds, Sort.swp_size]; omega)) ?_
          skip
          refine rg_indexD (j) rfl rfl (by first | with_reducible rfl | omega | (simp (disch := omega) only [wIn, td2, td4, td8]; done) | (simp (disch := omega) only [wIn, td2, td4, td8]; omega)) (by first | omega | (simp only [Array.size_setIfInBounds, Sort.swp_size]; omega)) ?_
          refine rg_storeD rfl rfl (by first | omega | (simp only [Array.size_setIfInBounds, Sort.swp_size]; omega)) ?_
          skip
          refine rg_indexD (j - 1) rfl rfl (by first | with_reducible rfl | omega | (simp (disch := omega) only [wIn]; done) | (simp (disch := omega) only [wIn]; omega)) (by first | omega | (simp only [Array.size_setIfInBounds, Sort.swp_size]; omega)) ?_
          refine rg_storeD rfl rfl (by first | omega | (simp only [Array.size_setIfInBounds, Sort.swp_size]; omega)) ?_
          repeat (first|refine zA rfl ?_|refine zB rfl rfl rfl ?_|refine zG rfl ?_|refine zQ ?_|refine zS ?_|refine yD ?_)
          refine ex_inLoop ?_
          exact Ex.sup (IH (j + 1, Sort.swp q j (j - 1)) ⟨by rw [Sort.swp_size]; exact h1, by dsimp only; omega, by dsimp only; omega, by dsimp only; rw [← shiftUp_go (by omega) h9]; exact h3⟩ (by dsimp only; omega)) ⟨vi (by first | with_reducible rfl | omega | (simp (disch := omega) only [wIn]; done) | (simp (disch := omega) only [wIn]; omega)), rfl, rfl, rfl, rfl, rfl, rfl, trivial⟩
      · have h8 := of_decide_eq_false h8
        have e1 : f3 = q := by rw [← h3, shiftUp_end (fun h => by omega)]
        repeat (first|refine yD ?_|refine yE rfl ?_)
        rw [← e1]
        refine Ex.sup (JJ () trivial) ?_
        exact ⟨rfl, rfl, rfl, rfl, rfl, rfl, trivial⟩
    · have h7 := of_decide_eq_false h7
      simp (disch := omega) only [wIn] at h7
      have e1 : f3 = f2 := by rw [← hf3]; unfold Sort.fixUp; rw [if_neg (by omega)]
      repeat (first|refine yB ?_|refine yD ?_)
      rw [← e1]
      refine Ex.sup (JJ () trivial) ?_
      exact ⟨rfl, rfl, rfl, rfl, rfl, rfl, trivial⟩
  rintro ⟨⟩ -
  repeat (first|refine zA rfl ?_|refine zB rfl rfl rfl ?_|refine zG rfl ?_|refine zQ ?_|refine zS ?_)
  refine ex_inLoop ?_
  exact Ex.sup (IHO (s, I, f3) ⟨l3, by dsimp only; omega, by dsimp only; omega, by dsimp only; omega, by exact k5⟩ (by exact Nat.lt_succ_self _)) ⟨rfl, vi (by first | with_reducible rfl | omega | (simp (disch := omega) only [wIn]; done) | (simp (disch := omega) only [wIn]; omega)), rfl, rfl, rfl, rfl, trivial⟩

end Go.Br

namespace Go.Br
open Go Go.Lx Go.Proofs
open Go.Lx renaming rg_move → zA, rg_int → zB, rg_nilCheck → zC, rg_fieldAddr0 → zD, rg_fieldAddr → zE, rg_load → zF, rg_assign → zG, rg_loadAgg → zH, rg_extract → zI, rg_not → zJ, rg_pick → zK, rg_off → zL, rg_offU → zM, rg_store → zN, rg_storeAgg → zO, rg_convInt → zP, rg_done → zQ, ex_seq → zR, rg_start_s → zS, rg_start_d → zT, ex_cond_true → zU, ex_cond_false → zV, rg_alloc → zW, rg_boxAgg → zX, rg_build → zY, rg_lenSl → zZ, rg_lenMap → yA, ex_skip → yB, ex_block → yC, ex_inBlock → yD, ex_exit → yE, rg_caseG → yZ
set_option maxRecDepth 100000

set_option maxHeartbeats 4000000 in
theorem pdq_ok : ∀ (k g n cap a b lim : Nat) (d : Array Int) (sk : List Value) (Γ : List Ch), b - a ≤ k → d.size = n → b ≤ n → a ≤ b → n < 1152921504606846976 → lim < 1152921504606846976 → Sort.Below Sort.ltInt a b d →
    CallsX Try.prog 89 #[dV g n cap, .int .i64 a, .int .i64 b, .int .i64 lim] (dCh g d sk :: Γ) (fun v Δ => ∃ e, v = .tuple #[] ∧ Sort.PermIn a b d e ∧ Sort.SortedIn Sort.ltInt a b e ∧ Δ = dCh g e sk :: Γ) := by
  intro k
  induction k using Nat.strongRecOn with
  | _ k REC =>
  intro g n cap a b lim d sk Γ hk hn hb hab hn2 hlim hbel
  refine calls_of_body (args := [dV g n cap, .int .i64 a, .int .i64 b, .int .i64 lim]) Try.func89 rfl Try.ntmps89 fun X cs ret => ?_
  repeat (first|refine zG rfl ?_|refine zQ ?_|refine zR ?_|refine zS ?_|refine yC ?_)
  refine ex_loop ?_
  refine ex_ind (ι := (Nat × Nat × Nat) × (Bool × Bool) × Array Int) (fun s => s.1.2.1 - s.1.1) (fun s => [(8, .bool s.2.1.1), (9, .bool s.2.1.2), (0, dV g n cap), (1, .int .i64 s.1.1), (2, .int .i64 s.1.2.1), (3, .int .i64 s.1.2.2)]) (fun s => dCh g s.2.2 sk :: Γ)
    (fun s => s.2.2.size = n ∧ s.1.1 ≤ s.1.2.1 ∧ s.1.2.1 ≤ n ∧ s.1.2.1 - s.1.1 ≤ k ∧ s.1.2.2 < 1152921504606846976 ∧ Sort.Below Sort.ltInt s.1.1 s.1.2.1 s.2.2 ∧ ∀ R, Sort.PermIn s.1.1 s.1.2.1 s.2.2 R → Sort.SortedIn Sort.ltInt s.1.1 s.1.2.1 R → Sort.PermIn a b d R ∧ Sort.SortedIn Sort.ltInt a b R)
    ((a, b, lim), (true, true), d) ⟨hn, hab, hb, hk, hlim, hbel, fun R h1 h2 => ⟨h1, h2⟩⟩ ⟨rfl, rfl, rfl, rfl, rfl, rfl, trivial⟩ rfl (fun ⟨⟨a', b', lim'⟩, ⟨bal, part⟩, e⟩ ⟨k1, k2, k3, k4, k5, k6, k7⟩ IHO => ?_)
  dsimp only at k1 k2 k3 k4 k5 k6 k7 ⊢
  repeat (first|refine zA rfl ?_|refine zB rfl rfl rfl ?_|refine zG rfl ?_|refine zQ ?_|refine zR ?_|refine zS ?_|refine yC ?_)
  rw [show IntKind.wrap .i64 ((b' : Int) - (a' : Int)) = ((b' - a' : Nat) : Int) by rw [wI]; omega]
  refine ex_cond_split rfl (fun h1 => ?_) (fun h1 => ?_)
  · repeat (first|refine zA rfl ?_|refine zR ?_|refine zS ?_)
    refine rg_call rfl (insertionSort_ok g n cap a' b' e sk _ k1 k3 (by omega) (by omega)) ?_
    rintro _ _ ⟨rfl, rfl⟩
    refine ⟨.inl rfl, ?_⟩
    have hs := Sort.insertionSort_holds (lt := Sort.ltInt) Sort.swo_ltInt e a' b' k2 (by omega)
    have hr := k7 _ hs.1 hs.2
    repeat refine zQ ?_
    exact ex_retc ret Try.func89 rfl ⟨_, rfl, hr.1, hr.2, rfl⟩
  have h1 := of_decide_eq_false h1
  have h1' : 12 < b' - a' := by omega
  repeat (first|refine zA rfl ?_|refine zB rfl rfl rfl ?_|refine zQ ?_|refine zR ?_|refine zS ?_|refine yB ?_)
  refine ex_cond_split rfl (fun h2 => ?_) (fun h2 => ?_)
  · repeat (first|refine zA rfl ?_|refine zR ?_|refine zS ?_)
    refine rg_call rfl (heapSort_ok g n cap a' b' e sk _ k1 k3 hn2 k2) ?_
    rintro _ _ ⟨rfl, rfl⟩
    refine ⟨.inl rfl, ?_⟩
    have hs := Sort.heapSort_holds (lt := Sort.ltInt) Sort.swo_ltInt e a' b' k2 (by omega)
    have hr := k7 _ hs.1 hs.2
    repeat refine zQ ?_
    exact ex_retc ret Try.func89 rfl ⟨_, rfl, hr.1, hr.2, rfl⟩
  have h2 := of_decide_eq_false h2
  repeat (first|refine zR ?_|refine yB ?_)
  refine rg_start_s ?_
  repeat (first|refine zA rfl ?_|refine zJ rfl ?_|refine zQ ?_)
  apply joinC (ι := Nat × Array Int) (fun s => s.1 < 1152921504606846976 ∧ Sort.PermIn a' b' e s.2) (fun s => [(8, .bool bal), (9, .bool part), (10, .int .i64 (b' - a' : Nat)), (0, dV g n cap), (1, .int .i64 a'), (2, .int .i64 b'), (3, .int .i64 s.1)]) (fun s => dCh g s.2 sk :: Γ)
  · intro JJ
    refine ex_cond_split rfl (fun h3 => ?_) (fun h3 => ?_)
    · repeat (first|refine zA rfl ?_|refine zR ?_|refine zS ?_)
      refine rg_call rfl (breakPatterns_ok g n cap a' b' e sk _ k1 k3 hn2 k2) ?_
      rintro _ _ ⟨f, rfl, hf, rfl⟩
      refine ⟨.inl rfl, ?_⟩
      repeat refine zQ ?_
      refine rg_start_s ?_
      repeat (first|refine zA rfl ?_|refine zB rfl rfl rfl ?_|refine zG rfl ?_|refine zQ ?_|refine zR ?_)
      refine Ex.sup (JJ (lim' - 1, f) ⟨by dsimp only; omega, hf⟩) ?_
      exact ⟨rfl, rfl, rfl, rfl, rfl, rfl, vi (by first | with_reducible rfl | omega | (simp (disch := omega) only [wIn]; done) | (simp (disch := omega) only [wIn]; omega)), trivial⟩
    · repeat (first|refine zR ?_|refine yB ?_)
      refine Ex.sup (JJ (lim', e) ⟨k5, Sort.permIn_refl _ _ _⟩) ?_
      exact ⟨rfl, rfl, rfl, rfl, rfl, rfl, rfl, trivial⟩
  rintro ⟨lm, f⟩ ⟨l1, l2⟩
  dsimp only at l1 l2 ⊢
  have l3 : f.size = n := by rw [l2.1]; exact k1
  repeat (first|refine zA rfl ?_|refine zS ?_)
  refine rg_call rfl (choosePivot_ok g n cap a' b' f sk _ l3 (by omega) k3 hn2) ?_
  rintro _ _ ⟨p, hh, rfl, p1, p2, rfl⟩
  refine ⟨.inl rfl, ?_⟩
  repeat (first|refine zA rfl ?_|refine zG rfl ?_|refine zI rfl rfl ?_|refine zQ ?_|refine zR ?_)
  refine rg_start_s ?_
  repeat (first|refine zA rfl ?_|refine zB rfl rfl rfl ?_|refine zQ ?_)
  apply joinC (ι := Nat × Int × Array Int) (fun s => a' ≤ s.1 ∧ s.1 < b' ∧ Sort.PermIn a' b' e s.2.2) (fun s => [(11, .int .i64 s.1), (12, .int .i64 s.2.1), (8, .bool bal), (9, .bool part), (10, .int .i64 (b' - a' : Nat)), (0, dV g n cap), (1, .int .i64 a'), (2, .int .i64 b'), (3, .int .i64 lm)]) (fun s => dCh g s.2.2 sk :: Γ)
  · intro JJ
    refine ex_cond_split rfl (fun h3 => ?_) (fun h3 => ?_)
    · repeat (first|refine zA rfl ?_|refine zR ?_|refine zS ?_)
      refine rg_call rfl (reverseRange_ok g n cap a' b' f sk _ l3 k3 hn2 (by omega)) ?_
      rintro _ _ ⟨rfl, rfl⟩
      refine ⟨.inl rfl, ?_⟩
      repeat (first|refine zQ ?_|refine zR ?_)
      refine rg_start_s ?_
      repeat (first|refine zA rfl ?_|refine zB rfl rfl rfl ?_|refine zG rfl ?_|refine zQ ?_)
      refine rg_start_s ?_
      repeat (first|refine zG rfl ?_|refine zQ ?_|refine zR ?_)
      refine Ex.sup (JJ ((b' - 1) - (p - a'), 1, Sort.reverseRange f a' b') ⟨by dsimp only; omega, by dsimp only; omega, Sort.permIn_trans _ _ _ _ _ l2 (Sort.reverseRange_holds f a' b' (by omega) (by omega))⟩) ?_
      exact ⟨vi (by first | with_reducible rfl | omega | (simp (disch := omega) only [wIn]; done) | (simp (disch := omega) only [wIn]; omega)), rfl, rfl, rfl, rfl, rfl, rfl, rfl, rfl, trivial⟩
    · repeat (first|refine zR ?_|refine yB ?_)
      refine Ex.sup (JJ (p, hh, f) ⟨p1, p2, l2⟩) ?_
      exact ⟨rfl, rfl, rfl, rfl, rfl, rfl, rfl, rfl, rfl, trivial⟩
  clear l2 l3 p1 p2
  rintro ⟨q, hint, f2⟩ ⟨p1, p2, l2⟩
  dsimp only at p1 p2 l2 ⊢
  have l3 : f2.size = n := by rw [l2.1]; exact k1
  have l4 : Sort.Below Sort.ltInt a' b' f2 := k6.perm (by omega) l2
  apply joinC (ι := Array Int) (fun s => Sort.PermIn a' b' e s) (fun s => [(11, .int .i64 q), (8, .bool bal), (9, .bool part), (10, .int .i64 (b' - a' : Nat)), (0, dV g n cap), (1, .int .i64 a'), (2, .int .i64 b'), (3, .int .i64 lm)]) (fun s => dCh g s sk :: Γ)
  · intro JJ
    repeat (first|refine zA rfl ?_|refine zS ?_)
    refine rg_caseG rfl rfl (fun h3 => ?_) (fun h3 => ?_)
    rotate_left
    · repeat (first|refine zA rfl ?_|refine zK rfl rfl ?_|refine zL rfl rfl rfl rfl (by decide) trivial rfl ?_|refine zQ ?_|refine zR ?_|refine zV rfl ?_|refine yB ?_)
      refine Ex.sup (JJ f2 l2) ?_
      exact ⟨rfl, rfl, rfl, rfl, rfl, rfl, rfl, rfl, trivial⟩
    repeat (first|refine zA rfl ?_|refine zK rfl rfl ?_)
    refine rg_caseG rfl rfl (fun h4 => ?_) (fun h4 => ?_)
    rotate_left
    · repeat (first|refine zK rfl rfl ?_|refine zL rfl rfl rfl rfl (by decide) trivial rfl ?_|refine zQ ?_|refine zR ?_|refine zV rfl ?_|refine yB ?_)
      refine Ex.sup (JJ f2 l2) ?_
      exact ⟨rfl, rfl, rfl, rfl, rfl, rfl, rfl, rfl, trivial⟩
    repeat (first|refine zA rfl ?_|refine zB rfl rfl rfl ?_|refine zK rfl rfl ?_|refine zQ ?_)
    refine ex_cond_split rfl (fun h5 => ?_) (fun h5 => ?_)
    · repeat (first|refine zA rfl ?_|refine zR ?_|refine zS ?_)
      refine rg_call rfl (partialIns_ok g n cap a' b' f2 sk _ l3 k3 hn2 (by omega)) ?_
      rintro _ _ ⟨rfl, rfl⟩
      refine ⟨.inl rfl, ?_⟩
      have hs := Sort.partialInsertionSort_holds (lt := Sort.ltInt) Sort.swo_ltInt f2 a' b' (by omega) (by omega) l4
      repeat refine zQ ?_
      refine ex_cond_split rfl (fun h5 => ?_) (fun h5 => ?_)
      · have hr := k7 _ (Sort.permIn_trans _ _ _ _ _ l2 hs.1) (hs.2 h5)
        exact ex_retc ret Try.func89 rfl ⟨_, rfl, hr.1, hr.2, rfl⟩
      · repeat (first|refine zR ?_|refine yB ?_)
        refine Ex.sup (JJ _ (Sort.permIn_trans _ _ _ _ _ l2 hs.1)) ?_
        exact ⟨rfl, rfl, rfl, rfl, rfl, rfl, rfl, rfl, trivial⟩
    · repeat (first|refine zR ?_|refine yB ?_)
      refine Ex.sup (JJ f2 l2) ?_
      exact ⟨rfl, rfl, rfl, rfl, rfl, rfl, rfl, rfl, trivial⟩
  clear l2 l3 l4
  clear f2 f
  rintro f l2
  have l3 : f.size = n := by rw [l2.1]; exact k1
  have l4 : Sort.Below Sort.ltInt a' b' f := k6.perm (by omega) l2
  apply joinC (ι := Bool) (fun t => t = true → 0 < a' ∧ Sort.ltInt f[a' - 1]! f[q]! = false) (fun t => [(87, .bool t), (11, .int .i64 q), (8, .bool bal), (9, .bool part), (10, .int .i64 (b' - a' : Nat)), (0, dV g n cap), (1, .int .i64 a'), (2, .int .i64 b'), (3, .int .i64 lm)]) (fun _ => dCh g f sk :: Γ)
  · intro JJ
    repeat (first|refine zA rfl ?_|refine zB rfl rfl rfl ?_|refine zT (by decide+kernel) (by decide+kernel) ?_)
    refine rg_caseG rfl rfl (fun h4 => ?_) (fun h4 => ?_)
    · have h4 := of_decide_eq_true h4
      repeat (first|refine zA rfl ?_|refine zB rfl rfl rfl ?_)
      refine rg_indexD (a' - 1) rfl rfl (by first | with_reducible rfl | omega | (simp (disch := omega) only [wIn]; done) | (simp (disch := omega) only [wIn]; omega)) (by first | omega | (simp only [Array.size_setIfInBounds, Sort.swp_size]; omega)) ?_
      refine rg_loadD rfl (by first | omega | (simp only [Array.size_setIfInBounds, Sort.swp_size]; omega)) ?_
      repeat refine zA rfl ?_
      refine rg_indexD (q) rfl rfl (by first | with_reducible rfl | omega | (simp (disch := omega) only [wIn, td2, td4, td8]; done) | (simp (disch := omega) only [wIn, td2, td4, td8]; omega)) (by first | omega | (simp only [Array.size_setIfInBounds, Sort.swp_size]; omega)) ?_
      refine rg_loadD rfl (by first | omega | (simp only [Array.size_setIfInBounds, Sort.swp_size]; omega)) ?_
      refine rg_call rfl (less_ok _ _ _) ?_
      rintro _ _ ⟨rfl, rfl⟩
      refine ⟨.inr (by (repeat' first | exact trivial | refine ⟨.inl (by decide +kernel), ?_⟩)), ?_⟩
      repeat (first|refine zJ rfl ?_|refine zK rfl rfl ?_|refine zQ ?_)
      refine Ex.sup (JJ (!Sort.ltInt f[a' - 1]! f[q]!) (fun h => ⟨by omega, by simpa using h⟩)) ?_
      exact ⟨rfl, rfl, rfl, rfl, rfl, rfl, rfl, rfl, rfl, trivial⟩
    · repeat (first|refine zK rfl rfl ?_|refine zL rfl rfl rfl rfl (by decide) trivial rfl ?_|refine zQ ?_)
      refine Ex.sup (JJ false (fun h => by cases h)) ?_
      exact ⟨rfl, rfl, rfl, rfl, rfl, rfl, rfl, rfl, rfl, trivial⟩
  intro t ht
  refine ex_cond_split rfl (fun h5 => ?_) (fun _ => ?_)
  · obtain ⟨t1, t2⟩ := ht h5
    obtain ⟨mid, f4, hx⟩ : ∃ m d, Sort.partitionEqual Sort.ltInt f a' b' q = (m, d) := ⟨_, _, rfl⟩
    obtain ⟨r1, r2, r3, r4, r5⟩ := Sort.round_eq (lt := Sort.ltInt) Sort.swo_ltInt (Sort.partitionEqual_holds _) t1 p1 p2 (by omega : b' ≤ f.size) l4 t2 hx
    have hc := fun Γ => partitionEqual_ok g n cap a' b' q f sk Γ l3 k3 hn2 p1 p2
    rw [hx] at hc
    repeat (first|refine zA rfl ?_|refine zR ?_|refine zS ?_)
    refine rg_call rfl (hc _) ?_
    rintro _ _ ⟨rfl, rfl⟩
    refine ⟨.inl rfl, ?_⟩
    repeat (first|refine zA rfl ?_|refine zG rfl ?_|refine zQ ?_|refine zR ?_|refine zS ?_|refine yE rfl ?_)
    refine ex_inLoop ?_
    exact Ex.sup (IHO ((mid, b', lm), (bal, part), f4) ⟨by dsimp only; rw [r3]; exact l3, r2, k3, by dsimp only; omega, l1, r4, fun R h1 h2 => by
      have := r5 R h1 h2
      exact k7 R (Sort.permIn_trans _ _ _ _ _ l2 this.1) this.2⟩ (by dsimp only; omega)) ⟨rfl, rfl, rfl, rfl, rfl, rfl, trivial⟩
  obtain ⟨mid, ap, f4, hx⟩ : ∃ m t d, Sort.partition Sort.ltInt f a' b' q = (m, t, d) := ⟨_, _, _, rfl⟩
  obtain ⟨r1, r2, r3, r4, r5, r6, r7⟩ := Sort.round_part (lt := Sort.ltInt) Sort.swo_ltInt (Sort.partition_holds _) p1 p2 (by omega : b' ≤ f.size) l4 hx
  have hc := fun Γ => partition_ok g n cap a' b' q f sk Γ l3 k3 hn2 p1 p2
  rw [hx] at hc
  repeat (first|refine zA rfl ?_|refine zR ?_|refine zS ?_|refine yB ?_)
  refine rg_call rfl (hc _) ?_
  rintro _ _ ⟨rfl, rfl⟩
  refine ⟨.inl rfl, ?_⟩
  repeat (first|refine zA rfl ?_|refine zB rfl rfl rfl ?_|refine zG rfl ?_|refine zI rfl rfl ?_|refine zQ ?_|refine zR ?_|refine zS ?_)
  refine rg_quo rfl rfl (by decide) ?_
  repeat (first|refine zA rfl ?_|refine zB rfl rfl rfl ?_|refine zG rfl ?_|refine zQ ?_|refine zR ?_|refine zS ?_)
  refine ex_cond_split rfl (fun h6 => ?_) (fun h6 => ?_)
  · repeat (first|refine zA rfl ?_|refine zB rfl rfl rfl ?_|refine zG rfl ?_|refine zQ ?_|refine zR ?_|refine zS ?_)
    refine rg_call rfl (REC (k - 1) (by omega) g n cap a' mid lm f4 sk _ (by omega) (by omega) (by omega) r1 hn2 l1 r4) ?_
    rintro _ _ ⟨L, rfl, L1, L2, rfl⟩
    refine ⟨.inl rfl, ?_⟩
    obtain ⟨s1, s2⟩ := r6 L L1 L2
    repeat (first|refine zA rfl ?_|refine zB rfl rfl rfl ?_|refine zG rfl ?_|refine zQ ?_|refine zS ?_|refine yD ?_)
    refine ex_inLoop ?_
    exact Ex.sup (IHO ((mid + 1, b', lm), (_, ap), L) ⟨by dsimp only; rw [L1.1, r3]; exact l3, by dsimp only; omega, k3, by dsimp only; omega, l1, s1, fun R h1 h2 => by
      have := s2 R h1 h2
      exact k7 R (Sort.permIn_trans _ _ _ _ _ l2 this.1) this.2⟩ (by dsimp only; omega)) ⟨rfl, rfl, rfl, vi (by first | with_reducible rfl | omega | (simp (disch := omega) only [wIn]; done) | (simp (disch := omega) only [wIn]; omega)), rfl, rfl, trivial⟩
  · repeat (first|refine zA rfl ?_|refine zB rfl rfl rfl ?_|refine zG rfl ?_|refine zQ ?_|refine zR ?_|refine zS ?_)
    rw [show IntKind.wrap .i64 ((mid : Int) + 1) = ((mid + 1 : Nat) : Int) by rw [wI]; omega]
    refine rg_call rfl (REC (k - 1) (by omega) g n cap (mid + 1) b' lm f4 sk _ (by omega) (by omega) k3 (by omega) hn2 l1 r5) ?_
    rintro _ _ ⟨L, rfl, L1, L2, rfl⟩
    refine ⟨.inl rfl, ?_⟩
    obtain ⟨s1, s2⟩ := r7 L L1 L2
    repeat (first|refine zA rfl ?_|refine zG rfl ?_|refine zQ ?_|refine zS ?_|refine yD ?_)
    refine ex_inLoop ?_
    exact Ex.sup (IHO ((a', mid, lm), (_, ap), L) ⟨by dsimp only; rw [L1.1, r3]; exact l3, r1, by dsimp only; omega, by dsimp only; omega, l1, s1, fun R h1 h2 => by
      have := s2 R h1 h2
      exact k7 R (Sort.permIn_trans _ _ _ _ _ l2 this.1) this.2⟩ (by dsimp only; omega)) ⟨rfl, rfl, rfl, rfl, rfl, rfl, trivial⟩

theorem sort_ok (g n cap : Nat) (d : Array Int) (sk : List Value) (Γ : List Ch) (hn : d.size = n) (hn2 : n < 1152921504606846976) :
    CallsX Try.prog 76 #[dV g n cap] (dCh g d sk :: Γ) (fun v Δ => ∃ e : Array Int, v = .tuple #[] ∧ e.size = n ∧ e.toList.Perm d.toList ∧ e.toList.Pairwise (fun x y => x ≤ y) ∧ Δ = dCh g e sk :: Γ) := by
  refine calls_of_body (args := [dV g n cap]) Try.func76 rfl Try.ntmps76 fun X cs ret => ?_
  repeat (first|refine zA rfl ?_|refine zG rfl ?_|refine zP rfl ?_|refine zQ ?_|refine zR ?_|refine zS ?_|refine zZ rfl ?_)
  rw [show IntKind.wrap .u64 (n : Int) = (n : Int) by rw [wU]; omega]
  refine rg_call rfl (len_ok n _ (by omega)) ?_
  rintro _ _ ⟨rfl, rfl⟩
  refine ⟨.inl rfl, ?_⟩
  have hl : Sort.bitsLen n ≤ 60 := (Sort.bitsLen_le_iff n 60).2 (by omega)
  refine rg_call rfl (pdq_ok n g n cap 0 n (Sort.bitsLen n) d sk _ (by omega) hn (Nat.le_refl _) (by omega) hn2 (by omega) (.inl rfl)) ?_
  rintro _ _ ⟨e, rfl, e1, e2, rfl⟩
  refine ⟨.inl rfl, ?_⟩
  repeat refine zQ ?_
  have es : e.size = n := by rw [e1.1, hn]
  refine ex_endc ret Try.func76 rfl ⟨e, rfl, es, ?_, ?_, rfl⟩
  · have := e1.2.2
    rwa [Array.extract_eq_self_of_le (by omega), Array.extract_eq_self_of_le (by omega)] at this
  · rw [List.pairwise_iff_getElem]
    intro i j hi hj hij
    have h := e2 i j (Nat.zero_le _) hij (by simpa [es] using hj)
    have hi' : i < e.size := by simpa using hi
    have hj' : j < e.size := by simpa using hj
    rw [getElem!_pos e i hi', getElem!_pos e j hj'] at h
    simp only [Sort.ltInt, decide_eq_false_iff_not] at h
    simp only [Array.getElem_toList]
    omega

end Go.Br

namespace Go.Br
open Go Go.Lx Go.Proofs
open Go.Lx renaming rg_move → zA, rg_int → zB, rg_nilCheck → zC, rg_fieldAddr0 → zD, rg_fieldAddr → zE, rg_load → zF, rg_assign → zG, rg_loadAgg → zH, rg_extract → zI, rg_not → zJ, rg_pick → zK, rg_off → zL, rg_offU → zM, rg_store → zN, rg_storeAgg → zO, rg_convInt → zP, rg_done → zQ, ex_seq → zR, rg_start_s → zS, rg_start_d → zT, ex_cond_true → zU, ex_cond_false → zV, rg_alloc → zW, rg_boxAgg → zX, rg_build → zY, rg_lenSl → zZ, rg_lenMap → yA, ex_skip → yB, ex_block → yC, ex_inBlock → yD, ex_exit → yE, rg_caseG → yZ
set_option maxRecDepth 100000

theorem keys_ok (m : Nat) (Γ : List Ch) :
    CallsX Try.prog 61 #[.map (some m)] Γ (fun v Δ => ∃ mb, v = .func (.func 77) #[] ⟨[ptrV mb]⟩ ∧ Δ = .pt mb true (.cells ⟨[.map (some m)]⟩ 143 (0, 0)) :: Γ) := by
  refine calls_of_body (args := [.map (some m)]) Try.func61 rfl Try.ntmps61 fun X cs ret => ?_
  repeat (first|refine zR ?_|refine zS ?_)
  refine rg_boxOne rfl (fun mb => ?_)
  repeat (first|refine zG rfl ?_|refine zQ ?_|refine zR ?_|refine zS ?_)
  refine rg_makeFunc rfl ?_
  repeat (first|refine zG rfl ?_|refine zQ ?_)
  exact ex_retc ret Try.func61 rfl ⟨mb, rfl, rfl⟩

/-- What is held of the packets whose map is ranged over. -/
structure OkL (l : List Pk) (ck : Nat) : Prop where
  sorted : l.Pairwise (fun p q => p.seq < q.seq)
  seqs : ∀ p ∈ l, 1 ≤ p.seq ∧ p.seq - 1 < ck
  len : l.length < 100000000

theorem OkL.nodup {l : List Pk} {ck : Nat} (ok : OkL l ck) : l.Nodup := ok.sorted.imp fun {a b} h e => by subst e; omega

theorem OkL.born {l : List Pk} {ck : Nat} (ok : OkL l ck) : (pEs l).Pairwise (fun x y => x.born ≠ y.born) := by
  unfold pEs
  rw [List.pairwise_map, List.pairwise_map]
  have hs' : l.Pairwise (fun a b => a ∈ l ∧ b ∈ l ∧ a.seq < b.seq) := List.Pairwise.imp_of_mem (fun {a b} ha hb h => ⟨ha, hb, h⟩) ok.sorted
  refine hs'.imp ?_
  rintro a b ⟨ha, hb, h⟩
  have h1 := ok.seqs a ha
  have h2 := ok.seqs b hb
  show (a.seq - 1).toNat ≠ (b.seq - 1).toNat
  omega

theorem OkL.inj {l : List Pk} {ck : Nat} (ok : OkL l ck) {p q : Pk} (hp : p ∈ l) (hq : q ∈ l) (h : (p.seq - 1).toNat = (q.seq - 1).toNat) : p = q := by
  have h1 := ok.seqs p hp
  have h2 := ok.seqs q hq
  have e : p.seq = q.seq := by omega
  have key : ∀ {l : List Pk}, l.Pairwise (fun p q => p.seq < q.seq) → p ∈ l → q ∈ l → p = q := by
    intro l
    induction l with
    | nil => intro _ h; cases h
    | cons x l ih =>
      intro hs hp hq
      rw [List.pairwise_cons] at hs
      rcases List.mem_cons.1 hp with e1 | hp
      · rcases List.mem_cons.1 hq with e2 | hq
        · rw [e1, e2]
        · have := hs.1 q hq; rw [← e1] at this; omega
      · rcases List.mem_cons.1 hq with e2 | hq
        · have := hs.1 p hp; rw [← e2] at this; omega
        · exact ih hs.2 hp hq
  exact key ok.sorted hp hq

theorem OkL.ck {l : List Pk} {ck : Nat} (ok : OkL l ck) : ∀ e ∈ pEs l, e.born < ck := by
  intro e he
  obtain ⟨p, hp, rfl⟩ : ∃ p ∈ l, ient .u64 (pI p) = e := by simpa [pEs] using he
  have h1 := ok.seqs p hp
  show (p.seq - 1).toNat < ck
  omega

abbrev qV (q : Pk) : Value := .int .u64 q.seq

set_option maxHeartbeats 2000000 in
theorem appendSeq_ok (m mb ck : Nat) (p p1 : Bool) (l : List Pk) (Γ : List Ch) (ok : OkL l ck) :
    CallsX Try.prog 88 #[.slice none 0 0, .func (.func 77) #[] ⟨[ptrV mb]⟩] (.pt mb p1 (.cells ⟨[.map (some m)]⟩ 143 (0, 0)) :: .pt m p (.map ⟨pEs l⟩ ck) :: Γ)
      (fun v Δ => ∃ qs : List Pk, qs.Perm l ∧ Δ = .pr (SlV 36 1 v (qs.map qV) qs.length) :: .pt m p (.map ⟨pEs l⟩ ck) :: Γ) := by
  refine calls_of_body (args := [.slice none 0 0, .func (.func 77) #[] ⟨[ptrV mb]⟩]) Try.func88 rfl Try.ntmps88 fun X cs ret => ?_
  repeat (first|refine zR ?_|refine zS ?_)
  refine rg_boxOne rfl (fun sb => ?_)
  repeat (first|refine zA rfl ?_|refine zG rfl ?_|refine zQ ?_|refine zR ?_|refine zS ?_|refine yC ?_)
  refine Ex.ent (ent_emp (A := SlV 36 1 (.slice none 0 0) (([] : List Pk).map qV) ([] : List Pk).length) (.inl ⟨rfl, rfl, rfl⟩)) ?_
  refine ex_rangeFunc (caps := [ptrV mb]) (φ := fun r lp L v Δ => ∃ (qs : List Pk) (sv : Value), qs.Perm l ∧ Δ = .pt lp true (.loop L) :: .pr (SlV 36 1 sv (qs.map qV) qs.length) :: .pt sb true (.cells ⟨[sv]⟩ 53 (0, 0)) :: .pt r true (.deferred (some [])) :: .pt m p (.map ⟨pEs l⟩ ck) :: Γ) rfl rfl rfl (fun r lp T L hT hL => ?_) (fun r lp L v Δ hL1 hL2 hφ => ?_)
  · refine calls_of_body (args := [.func (.yield lp) #[] #[], ptrV mb]) Try.func77 rfl Try.ntmps77 fun X cs ret => ?_
    repeat (first|refine zF rfl ?_|refine zR ?_|refine zS ?_)
    refine rg_range rfl (fun it => ?_)
    repeat (first|refine zQ ?_|refine yC ?_)
    refine ex_loop ?_
    (refine Ex.front 6 ?_; refine Ex.front 6 ?_; refine Ex.front 4 ?_; refine Ex.front 6 ?_; refine Ex.front 6 ?_; refine Ex.front 6 ?_; refine Ex.front 6 ?_)
    refine ex_ind (ι := List Pk × Value) (fun s => left (pEs l) (s.1.map fun q => (q.seq - 1).toNat)) (fun s => [(5, ptrV it), (0, .func (.yield lp) #[] #[])])
      (fun s => .pt it true (.mapIter (some m) ck ⟨s.1.map fun q => (q.seq - 1).toNat⟩ ck) :: .pt lp true (.loop L) :: .pr (SlV 36 1 s.2 (s.1.map qV) s.1.length) :: .pt sb true (.cells ⟨[s.2]⟩ 53 (0, 0)) :: .pt r true (.deferred (some [])) :: .pt mb p1 (.cells ⟨[.map (some m)]⟩ 143 (0, 0)) :: .pt m p (.map ⟨pEs l⟩ ck) :: Γ)
      (fun s => s.1.Nodup ∧ (∀ q ∈ s.1, q ∈ l) ∧ left (pEs l) (s.1.map fun q => (q.seq - 1).toNat) + s.1.length ≤ l.length) ([], .slice none 0 0) ⟨List.nodup_nil, by intro q h; exact absurd h (by simp), ?_⟩ ⟨rfl, rfl, trivial⟩ rfl (fun ⟨qs, sv⟩ ⟨h1, h2, h3⟩ IH => ?_)
    · have : (pEs l).length = l.length := pEs_len l
      simp only [left, List.map_nil, List.length_nil, Nat.add_zero]
      exact Nat.le_trans (List.length_filter_le _ _) (Nat.le_of_eq this)
    dsimp only at h1 h2 h3 ⊢
    refine ex_seq (rg_start_s (rg_next rfl ok.ck (fun hall => ?_) (fun e he hne => ?_)))
    · repeat (first|refine zI rfl rfl ?_|refine zQ ?_|refine zR ?_|refine zV rfl ?_|refine yE rfl ?_)
      have hperm : qs.Perm l := by
        rw [List.perm_ext_iff_of_nodup h1 ok.nodup]
        intro a
        refine ⟨h2 a, fun ha => ?_⟩
        have := hall (ient .u64 (pI a)) (by simp only [pEs]; exact List.mem_map_of_mem (List.mem_map_of_mem ha))
        obtain ⟨q, hq, e⟩ := List.mem_map.1 this
        have := ok.inj (h2 q hq) ha e
        rw [← this]; exact hq
      (refine Ex.front 6 ?_; refine Ex.front 5 ?_; refine Ex.front 5 ?_; refine Ex.front 5 ?_; refine Ex.front 5 ?_; refine Ex.front 6 ?_; refine Ex.front 6 ?_)
      exact ex_ende ret Try.func77 rfl (Ent.drop (Ent.drop (Ent.refl _))) ⟨qs, sv, hperm, rfl⟩
    · obtain ⟨q, hq, rfl⟩ : ∃ q ∈ l, ient .u64 (pI q) = e := by simpa [pEs] using he
      repeat (first|refine zI rfl rfl ?_|refine zQ ?_|refine zR ?_|refine zS ?_|refine zU rfl ?_|refine yB ?_|refine yC ?_)
      refine rg_entry rfl (find_born ok.born he) ?_
      repeat (first|refine zA rfl ?_|refine zG rfl ?_|refine zI rfl rfl ?_|refine zQ ?_|refine zR ?_|refine zS ?_)
      have hll := left_lt he hne
      refine rg_yield (vs := [qV q]) (L := L) (φ := fun Δ => ∃ sv', Δ = .pt it true (.mapIter (some m) ck ⟨(qs.map fun q => (q.seq - 1).toNat) ++ [(q.seq - 1).toNat]⟩ ck) :: .pt lp true (.loop L) :: .pr (SlV 36 1 sv' (qs.map qV ++ [qV q]) (qs.length + 1)) :: .pt sb true (.cells ⟨[sv']⟩ 53 (0, 0)) :: .pt r true (.deferred (some [])) :: .pt mb p1 (.cells ⟨[.map (some m)]⟩ 143 (0, 0)) :: .pt m p (.map ⟨pEs l⟩ ck) :: Γ) rfl rfl Find.mem (by rw [hL]; rfl) (fun X c cs h ret2 st => ?_) (fun Δ hΔ => ?_)
      · subst hL
        have hT' := Tms.set hT (d := 7) (by decide) (qV q)
        dsimp only
        rw [zip_one]
        refine (?_ : Ex Try.prog X ⟨88, .normal, some lp, []⟩ 13 _ _ (c :: cs) _) _ h hT' st
        repeat (first|refine zG rfl ?_|refine zQ ?_|refine zS ?_)
        refine ex_beginRound rfl rfl rfl ?_
        repeat (first|refine zA rfl ?_|refine zF rfl ?_|refine zS ?_|refine yC ?_)
        refine rg_buildSlice (vs := [qV q]) rfl rfl rfl rfl (fun b2 => ?_)
        (refine Rg.front 3 ?_)
        have hlen := ok.len
        refine rg_append (xs := qs.map qV) (ys := [qV q]) (len := qs.length) (c := 1) rfl rfl (.inr ⟨b2, 0, 1, true, [qV q], 36, (0, 0), rfl, Find.mem, inferInstance⟩) (fun v hv => by simp at hv; subst hv; rfl) (by omega) (by omega) (fun s' => .inl rfl) (fun s' hone => ?_)
        refine rg_store rfl rfl ?_ hone
        repeat (first|refine zQ ?_|refine yD ?_)
        (refine Ex.front 7 ?_; refine Ex.front 7 ?_; refine Ex.front 7 ?_; refine Ex.front 7 ?_; refine Ex.front 4 ?_; refine Ex.front 7 ?_; refine Ex.front 7 ?_; refine Ex.front 7 ?_)
        refine Ex.drop ?_
        exact ex_roundEnd (l := lp) rfl rfl rfl (fun h st => ret2 _ h ⟨s', rfl⟩ st)
      · obtain ⟨sv', rfl⟩ := hΔ
        refine ⟨.inl rfl, ?_⟩
        repeat (first|refine zJ rfl ?_|refine zQ ?_|refine zV rfl ?_|refine yB ?_|refine yD ?_)
        refine ex_inLoop ?_
        have hmap : (qs ++ [q]).map (fun q => (q.seq - 1).toNat) = (qs.map fun q => (q.seq - 1).toNat) ++ [(q.seq - 1).toNat] := by rw [List.map_append]; rfl
        have hll' : left (pEs l) ((qs ++ [q]).map (fun q => (q.seq - 1).toNat)) < left (pEs l) (qs.map fun q => (q.seq - 1).toNat) := by rw [hmap]; exact hll
        have IH' := IH (qs ++ [q], sv') ⟨List.nodup_append.2 ⟨h1, by simp, by
          intro a ha b hb e
          rw [List.mem_singleton.1 hb] at e
          subst e
          exact hne (List.mem_map.2 ⟨a, ha, rfl⟩)⟩, by
          intro x hx
          rcases List.mem_append.1 hx with hx | hx
          · exact h2 x hx
          · rw [List.mem_singleton.1 hx]; exact hq, by
          dsimp only
          rw [List.length_append, List.length_singleton]
          omega⟩ hll'
        dsimp only at IH'
        rw [hmap, List.map_append, List.length_append, List.length_singleton] at IH'
        exact Ex.sup IH' ⟨rfl, rfl, trivial⟩
  · obtain ⟨qs, sv, hp, rfl⟩ := hφ
    refine ex_endRangeFunc hL1 hL2 ?_
    repeat (first|refine zF rfl ?_|refine zG rfl ?_|refine zQ ?_|refine zR ?_|refine zS ?_|refine yD ?_)
    (refine Ex.front 4 ?_; refine Ex.front 2 ?_; refine Ex.front 4 ?_; refine Ex.front 4 ?_; refine Ex.front 4 ?_)
    exact ex_retCol (r := r) (vs := [sv]) ret Try.func88 rfl (Ent.drop (Ent.drop (Ent.drop (Ent.refl _)))) ⟨qs, hp, rfl⟩

end Go.Br
