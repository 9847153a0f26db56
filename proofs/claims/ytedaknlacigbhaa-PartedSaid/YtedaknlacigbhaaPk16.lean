/-
  Lemmas towards the law, proved without conditions of their own: The sort, 2: the heap sort; The sort, 3: the heap sort; a range turned round; The sort, 4: the pivot; The sort, 5: lengths in bits; patterns broken; The sort, 6: patterns broken.
-/
import Derived.Test.YtedaknlacigbhaaPk15
namespace Go.Br
open Go Go.Lx Go.Proofs
open Go.Lx renaming rg_move → zA, rg_int → zB, rg_nilCheck → zC, rg_fieldAddr0 → zD, rg_fieldAddr → zE, rg_load → zF, rg_assign → zG, rg_loadAgg → zH, rg_extract → zI, rg_not → zJ, rg_pick → zK, rg_off → zL, rg_offU → zM, rg_store → zN, rg_storeAgg → zO, rg_convInt → zP, rg_done → zQ, ex_seq → zR, rg_start_s → zS, rg_start_d → zT, ex_cond_true → zU, ex_cond_false → zV, rg_alloc → zW, rg_boxAgg → zX, rg_build → zY, rg_lenSl → zZ, rg_lenMap → yA, ex_skip → yB, ex_block → yC, ex_inBlock → yD, ex_exit → yE, rg_caseG → yZ
set_option maxRecDepth 100000

theorem siftDown_size {lt : Int → Int → Bool} {hi first : Nat} : ∀ (k root : Nat) (d : Array Int), hi - root ≤ k → (Sort.siftDown lt hi first root d).size = d.size := by
  intro k
  induction k with
  | zero => intro root d h; rw [Sort.siftDown, dif_pos (by omega)]
  | succ k ih =>
    intro root d h
    rw [Sort.siftDown]
    split
    · rfl
    · split
      · split
        · rfl
        · split
          · rw [ih _ _ (by omega), Sort.swp_size]
          · rfl
      · split
        · rfl
        · rw [ih _ _ (by omega), Sort.swp_size]

theorem siftDown_end {lt : Int → Int → Bool} {hi first root : Nat} {d : Array Int} (h : hi ≤ 2 * root + 1) : Sort.siftDown lt hi first root d = d := by rw [Sort.siftDown, dif_pos h]
theorem siftDown_right {lt : Int → Int → Bool} {hi first root : Nat} {d : Array Int} (h : 2 * root + 2 < hi) (hl : lt d[first + (2 * root + 1)]! d[first + (2 * root + 1) + 1]! = true) :
    Sort.siftDown lt hi first root d = if lt d[first + root]! d[first + (2 * root + 2)]! = true then Sort.siftDown lt hi first (2 * root + 2) (Sort.swp d (first + root) (first + (2 * root + 2))) else d := by
  rw [Sort.siftDown, dif_neg (by omega), if_pos (by simp only [Bool.and_eq_true, decide_eq_true_eq]; exact ⟨by omega, hl⟩)]
  cases lt d[first + root]! d[first + (2 * root + 2)]!
  · rfl
  · simp only [Bool.not_true, Bool.false_eq_true, if_false, if_true]
    rw [dif_pos h]
theorem siftDown_left {lt : Int → Int → Bool} {hi first root : Nat} {d : Array Int} (h : 2 * root + 1 < hi) (hl : ¬ (2 * root + 2 < hi ∧ lt d[first + (2 * root + 1)]! d[first + (2 * root + 1) + 1]! = true)) :
    Sort.siftDown lt hi first root d = if lt d[first + root]! d[first + (2 * root + 1)]! = true then Sort.siftDown lt hi first (2 * root + 1) (Sort.swp d (first + root) (first + (2 * root + 1))) else d := by
  rw [Sort.siftDown, dif_neg (by omega), if_neg (by simp only [Bool.and_eq_true, decide_eq_true_eq]; exact hl)]
  cases lt d[first + root]! d[first + (2 * root + 1)]!
  · rfl
  · simp only [Bool.not_true, Bool.false_eq_true, if_false, if_true]

set_option maxHeartbeats 2000000 in
theorem siftDown_ok (g n cap lo hi first : Nat) (d : Array Int) (sk : List Value) (Γ : List Ch) (hn : d.size = n) (hb : first + hi ≤ n) (hn2 : n < 1152921504606846976) (hl : lo ≤ n) :
    CallsX Try.prog 107 #[dV g n cap, .int .i64 lo, .int .i64 hi, .int .i64 first] (dCh g d sk :: Γ) (fun v Δ => v = .tuple #[] ∧ Δ = dCh g (Sort.siftDown Sort.ltInt hi first lo d) sk :: Γ) := by
  refine calls_of_body (args := [dV g n cap, .int .i64 lo, .int .i64 hi, .int .i64 first]) Try.func107 rfl Try.ntmps107 fun X cs ret => ?_
  repeat (first|refine zA rfl ?_|refine zG rfl ?_|refine zQ ?_|refine zR ?_|refine zS ?_|refine yC ?_)
  refine ex_loop ?_
  refine ex_ind (ι := Nat × Array Int) (fun s => n - s.1) (fun s => [(8, .int .i64 s.1), (0, dV g n cap), (2, .int .i64 hi), (3, .int .i64 first)]) (fun s => dCh g s.2 sk :: Γ)
    (fun s => s.2.size = n ∧ s.1 ≤ n ∧ Sort.siftDown Sort.ltInt hi first s.1 s.2 = Sort.siftDown Sort.ltInt hi first lo d) (lo, d) ⟨hn, hl, rfl⟩ ⟨rfl, rfl, rfl, rfl, trivial⟩ rfl (fun ⟨root, e⟩ ⟨h1, h2, h3⟩ IH => ?_)
  dsimp only at h1 h2 h3 ⊢
  repeat (first|refine zA rfl ?_|refine zB rfl rfl rfl ?_|refine zG rfl ?_|refine zQ ?_|refine zR ?_|refine zS ?_|refine yC ?_)
  refine ex_cond_split rfl (fun h4 => ?_) (fun h4 => ?_)
  · have h4 := of_decide_eq_true h4
    simp (disch := omega) only [wIn] at h4
    have e1 : Sort.siftDown Sort.ltInt hi first lo d = e := by rw [← h3, siftDown_end (by omega)]
    rw [e1] at ret
    repeat refine yE rfl ?_
    exact ex_endc ret Try.func107 rfl ⟨rfl, rfl⟩
  have h4 := of_decide_eq_false h4
  simp (disch := omega) only [wIn] at h4
  apply joinC (ι := Nat) (fun c => (c = 2 * root + 1 ∨ c = 2 * root + 2) ∧ c < hi ∧ Sort.siftDown Sort.ltInt hi first lo d = (if Sort.ltInt e[first + root]! e[first + c]! = true then Sort.siftDown Sort.ltInt hi first c (Sort.swp e (first + root) (first + c)) else e))
    (fun c => [(9, .int .i64 c), (8, .int .i64 root), (0, dV g n cap), (2, .int .i64 hi), (3, .int .i64 first)]) (fun _ => dCh g e sk :: Γ)
  · intro J
    repeat (first|refine zA rfl ?_|refine zB rfl rfl rfl ?_|refine zR ?_|refine zT (by decide+kernel) (by decide+kernel) ?_|refine yB ?_)
    refine rg_caseG rfl rfl (fun h5 => ?_) (fun h5 => ?_)
    · have h5 := of_decide_eq_true h5
      simp (disch := omega) only [wIn] at h5
      repeat (first|refine zA rfl ?_|refine zB rfl rfl rfl ?_)
      refine rg_indexD (first + (2 * root + 1)) rfl rfl (by first | with_reducible rfl | omega | (simp (disch := omega) only [wIn]; done) | (simp (disch := omega) only [wIn]; omega)) (by first | omega | (simp only [Array.size_setIfInBounds, Sort.swp_size]; omega)) ?_
      refine rg_loadD rfl (by first | omega | (simp only [Array.size_setIfInBounds, Sort.swp_size]; omega)) ?_
      repeat (first|refine zA rfl ?_|refine zB rfl rfl rfl ?_)
      refine rg_indexD (first + (2 * root + 1) + 1) rfl rfl (by first | with_reducible rfl | omega | (simp (disch := omega) only [wIn]; done) | (simp (disch := omega) only [wIn]; omega)) (by first | omega | (simp only [Array.size_setIfInBounds, Sort.swp_size]; omega)) ?_
      refine rg_loadD rfl (by first | omega | (simp only [Array.size_setIfInBounds, Sort.swp_size]; omega)) ?_
      refine rg_call rfl (less_ok _ _ _) ?_
      rintro _ _ ⟨rfl, rfl⟩
      refine ⟨.inr (by (repeat' first | exact trivial | refine ⟨.inl (by decide +kernel), ?_⟩)), ?_⟩
      repeat (first|refine zK rfl rfl ?_|refine zQ ?_)
      refine ex_cond_split rfl (fun h6 => ?_) (fun h6 => ?_)
      · skip
        refine rg_start_s ?_
        repeat (first|refine zA rfl ?_|refine zB rfl rfl rfl ?_|refine zG rfl ?_|refine zQ ?_|refine zR ?_)
        refine Ex.sup (J (2 * root + 2) ⟨.inr rfl, by omega, by rw [← h3, siftDown_right (by omega) h6]⟩) ?_
        exact ⟨vi (by first | with_reducible rfl | omega | (simp (disch := omega) only [wIn]; done) | (simp (disch := omega) only [wIn]; omega)), rfl, rfl, rfl, rfl, trivial⟩
      · repeat (first|refine zR ?_|refine yB ?_)
        refine Ex.sup (J (2 * root + 1) ⟨.inl rfl, by omega, by rw [← h3, siftDown_left (by omega) (fun h => by rw [h6] at h; cases h.2)]⟩) ?_
        exact ⟨vi (by first | with_reducible rfl | omega | (simp (disch := omega) only [wIn]; done) | (simp (disch := omega) only [wIn]; omega)), rfl, rfl, rfl, rfl, trivial⟩
    · have h5 := of_decide_eq_false h5
      simp (disch := omega) only [wIn] at h5
      repeat (first|refine zK rfl rfl ?_|refine zL rfl rfl rfl rfl (by decide) trivial rfl ?_|refine zQ ?_|refine zR ?_|refine zV rfl ?_|refine yB ?_)
      refine Ex.sup (J (2 * root + 1) ⟨.inl rfl, by omega, by rw [← h3, siftDown_left (by omega) (fun h => by omega)]⟩) ?_
      exact ⟨vi (by first | with_reducible rfl | omega | (simp (disch := omega) only [wIn]; done) | (simp (disch := omega) only [wIn]; omega)), rfl, rfl, rfl, rfl, trivial⟩
  · rintro c ⟨c1, c2, c3⟩
    repeat (first|refine zA rfl ?_|refine zB rfl rfl rfl ?_|refine zT (by decide+kernel) (by decide+kernel) ?_)
    refine rg_indexD (first + root) rfl rfl (by first | with_reducible rfl | omega | (simp (disch := omega) only [wIn]; done) | (simp (disch := omega) only [wIn]; omega)) (by first | omega | (simp only [Array.size_setIfInBounds, Sort.swp_size]; omega)) ?_
    refine rg_loadD rfl (by first | omega | (simp only [Array.size_setIfInBounds, Sort.swp_size]; omega)) ?_
    repeat (first|refine zA rfl ?_|refine zB rfl rfl rfl ?_)
    refine rg_indexD (first + c) rfl rfl (by first | with_reducible rfl | omega | (simp (disch := omega) only [wIn]; done) | (simp (disch := omega) only [wIn]; omega)) (by first | omega | (simp only [Array.size_setIfInBounds, Sort.swp_size]; omega)) ?_
    refine rg_loadD rfl (by first | omega | (simp only [Array.size_setIfInBounds, Sort.swp_size]; omega)) ?_
    refine rg_call rfl (less_ok _ _ _) ?_
    rintro _ _ ⟨rfl, rfl⟩
    refine ⟨.inr (by (repeat' first | exact trivial | refine ⟨.inl (by decide +kernel), ?_⟩)), ?_⟩
    repeat (first|refine zJ rfl ?_|refine zQ ?_)
    refine ex_cond_split rfl (fun h6 => ?_) (fun h6 => ?_)
    · have h6 : Sort.ltInt e[first + root]! e[first + c]! = false := by simpa using h6
      rw [h6, if_neg (by decide)] at c3
      rw [c3] at ret
      skip
      exact ex_retc ret Try.func107 rfl ⟨rfl, rfl⟩
    · have h6 : Sort.ltInt e[first + root]! e[first + c]! = true := by simpa using h6
      rw [h6, if_pos rfl] at c3
      repeat (first|refine zA rfl ?_|refine zB rfl rfl rfl ?_|refine zR ?_|refine zT (by decide+kernel) (by decide+kernel) ?_|refine yB ?_)
      refine rg_indexD (first + c) rfl rfl (by first | with_reducible rfl | omega | (simp (disch := omega) only [wIn]; done) | (simp (disch := omega) only [wIn]; omega)) (by first | omega | (simp only [Array.size_setIfInBounds, Sort.swp_size]; omega)) ?_
      refine rg_loadD rfl (by first | omega | (simp only [Array.size_setIfInBounds, Sort.swp_size]; omega)) ?_
      repeat (first|refine zA rfl ?_|refine zB rfl rfl rfl ?_)
      refine rg_indexD (first + root) rfl rfl (by first | with_reducible rfl | omega | (simp (disch := omega) only [wIn]; done) | (simp (disch := omega) only [wIn]; omega)) (by first | omega | (simp only [Array.size_setIfInBounds, Sort.swp_size]; omega)) ?_
      refine rg_loadD rfl (by first | omega | (simp only [Array.size_setIfInBounds, Sort.swp_size]; omega)) ?_
      skip
      refine rg_indexD (first + root) rfl rfl (by first | with_reducible rfl | omega | (simp (disch := omega) only [wIn]; done) | (simp (disch := omega) only [wIn]; omega)) (by first | omega | (simp only [Array.size_setIfInBounds, Sort.swp_size]; omega)) ?_
      refine rg_storeD rfl rfl (by first | omega | (simp only [Array.size_setIfInBounds, Sort.swp_size]; omega)) ?_
      skip
      refine rg_indexD (first + c) rfl rfl (by first | with_reducible rfl | omega | (simp (disch := omega) only [wIn]; done) | (simp (disch := omega) only [wIn]; omega)) (by first | omega | (simp only [Array.size_setIfInBounds, Sort.swp_size]; omega)) ?_
      refine rg_storeD rfl rfl (by first | omega | (simp only [Array.size_setIfInBounds, Sort.swp_size]; omega)) ?_
      repeat (first|refine zA rfl ?_|refine zG rfl ?_|refine zQ ?_|refine zS ?_|refine yD ?_)
      refine ex_inLoop ?_
      exact Ex.sup (IH (c, Sort.swp e (first + root) (first + c)) ⟨by rw [Sort.swp_size]; exact h1, by dsimp only; omega, by exact c3.symm⟩ (by dsimp only; omega)) ⟨vi (by first | with_reducible rfl | omega | (simp (disch := omega) only [wIn, td2, td4, td8]; done) | (simp (disch := omega) only [wIn, td2, td4, td8]; omega)), rfl, rfl, rfl, trivial⟩

end Go.Br

namespace Go.Br
open Go Go.Lx Go.Proofs
open Go.Lx renaming rg_move → zA, rg_int → zB, rg_nilCheck → zC, rg_fieldAddr0 → zD, rg_fieldAddr → zE, rg_load → zF, rg_assign → zG, rg_loadAgg → zH, rg_extract → zI, rg_not → zJ, rg_pick → zK, rg_off → zL, rg_offU → zM, rg_store → zN, rg_storeAgg → zO, rg_convInt → zP, rg_done → zQ, ex_seq → zR, rg_start_s → zS, rg_start_d → zT, ex_cond_true → zU, ex_cond_false → zV, rg_alloc → zW, rg_boxAgg → zX, rg_build → zY, rg_lenSl → zZ, rg_lenMap → yA, ex_skip → yB, ex_block → yC, ex_inBlock → yD, ex_exit → yE, rg_caseG → yZ
set_option maxRecDepth 100000

theorem sd_size (hi first root : Nat) (d : Array Int) : (Sort.siftDown Sort.ltInt hi first root d).size = d.size := siftDown_size (hi - root) root d (Nat.le_refl _)

set_option maxHeartbeats 2000000 in
theorem heapSort_ok (g n cap a b : Nat) (d : Array Int) (sk : List Value) (Γ : List Ch) (hn : d.size = n) (hb : b ≤ n) (hn2 : n < 1152921504606846976) (ha : a ≤ b) :
    CallsX Try.prog 97 #[dV g n cap, .int .i64 a, .int .i64 b] (dCh g d sk :: Γ) (fun v Δ => v = .tuple #[] ∧ Δ = dCh g (Sort.heapSort Sort.ltInt d a b) sk :: Γ) := by
  refine calls_of_body (args := [dV g n cap, .int .i64 a, .int .i64 b]) Try.func97 rfl Try.ntmps97 fun X cs ret => ?_
  repeat (first|refine zA rfl ?_|refine zB rfl rfl rfl ?_|refine zG rfl ?_|refine zQ ?_|refine zR ?_|refine zS ?_)
  refine rg_quo rfl rfl (by decide) ?_
  repeat (first|refine zG rfl ?_|refine zQ ?_|refine yC ?_)
  refine ex_loop ?_
  refine ex_ind (ι := Nat × Array Int) (fun s => s.1) (fun s => [(9, .int .i64 (s.1 - 1 : Int)), (8, .int .i64 (b - a : Nat)), (7, .int .i64 0), (6, .int .i64 a), (0, dV g n cap)]) (fun s => dCh g s.2 sk :: Γ)
    (fun s => s.2.size = n ∧ s.1 ≤ n + 1 ∧ Sort.heapBuild Sort.ltInt (b - a) a s.1 s.2 = Sort.heapBuild Sort.ltInt (b - a) a ((b - a - 1) / 2 + 1) d) ((b - a - 1) / 2 + 1, d) ⟨hn, by dsimp only; omega, rfl⟩ ⟨vi ?_, vi (by first | with_reducible rfl | omega | (simp (disch := omega) only [wIn]; done) | (simp (disch := omega) only [wIn]; omega)), rfl, rfl, rfl, trivial⟩ rfl (fun ⟨k, e⟩ ⟨h1, h2, h3⟩ IH => ?_)
  · simp (disch := omega) only [wIn]
    by_cases h : a = b
    · subst h
      rw [show ((a : Int) - a - 1) = -1 by omega, show ((-1 : Int).tdiv 2) = 0 from by decide, wI]
      omega
    · rw [Int.tdiv_eq_ediv_of_nonneg (by omega)]
      simp (disch := omega) only [wIn]
      omega
  dsimp only at h1 h2 h3 ⊢
  repeat (first|refine zA rfl ?_|refine zB rfl rfl rfl ?_|refine zQ ?_|refine zR ?_|refine zS ?_)
  refine ex_cond_split rfl (fun h4 => ?_) (fun h4 => ?_)
  · have h4 := of_decide_eq_true h4
    obtain ⟨k, rfl⟩ : ∃ k', k = k' + 1 := ⟨k - 1, by omega⟩
    rw [show (((k + 1 : Nat) : Int) - 1) = (k : Int) by omega]
    repeat (first|refine zA rfl ?_|refine zR ?_|refine zS ?_|refine yB ?_|refine yC ?_)
    refine rg_call rfl (siftDown_ok g n cap k (b - a) a e sk _ h1 (by omega) hn2 (by omega)) ?_
    rintro _ _ ⟨rfl, rfl⟩
    refine ⟨.inl rfl, ?_⟩
    repeat (first|refine zA rfl ?_|refine zB rfl rfl rfl ?_|refine zG rfl ?_|refine zQ ?_|refine zS ?_|refine yD ?_)
    refine ex_inLoop ?_
    exact Ex.sup (IH (k, Sort.siftDown Sort.ltInt (b - a) a k e) ⟨by rw [sd_size]; exact h1, by dsimp only; omega, by exact h3⟩ (by exact Nat.lt_succ_self _)) ⟨vi (by first | with_reducible rfl | omega | (simp (disch := omega) only [wIn]; done) | (simp (disch := omega) only [wIn, td2, td4, td8]; omega)), rfl, rfl, rfl, rfl, trivial⟩
  have h4 := of_decide_eq_false h4
  have hk : k = 0 := by omega
  subst hk
  have h5 : e = Sort.heapBuild Sort.ltInt (b - a) a ((b - a - 1) / 2 + 1) d := h3
  repeat (first|refine zA rfl ?_|refine zB rfl rfl rfl ?_|refine zG rfl ?_|refine zQ ?_|refine zR ?_|refine zS ?_|refine yC ?_|refine yE rfl ?_)
  refine ex_loop ?_
  refine ex_ind (ι := Nat × Array Int) (fun s => s.1) (fun s => [(10, .int .i64 (s.1 - 1 : Int)), (7, .int .i64 0), (6, .int .i64 a), (0, dV g n cap)]) (fun s => dCh g s.2 sk :: Γ)
    (fun s => s.2.size = n ∧ s.1 ≤ b - a ∧ Sort.heapPop Sort.ltInt a s.1 s.2 = Sort.heapSort Sort.ltInt d a b) (b - a, e) ⟨h1, by exact Nat.le_refl _, by rw [h5]; rfl⟩ ⟨vi (by first | with_reducible rfl | omega | (simp (disch := omega) only [wIn]; done) | (simp (disch := omega) only [wIn, td2, td4, td8]; omega)), rfl, rfl, rfl, trivial⟩ rfl (fun ⟨k, f⟩ ⟨k1, k2, k3⟩ IH2 => ?_)
  dsimp only at k1 k2 k3 ⊢
  clear IH
  repeat (first|refine zA rfl ?_|refine zB rfl rfl rfl ?_|refine zQ ?_|refine zR ?_|refine zS ?_)
  refine ex_cond_split rfl (fun h6 => ?_) (fun h6 => ?_)
  · have h6 := of_decide_eq_true h6
    obtain ⟨k, rfl⟩ : ∃ k', k = k' + 1 := ⟨k - 1, by omega⟩
    rw [show (((k + 1 : Nat) : Int) - 1) = (k : Int) by omega]
    repeat (first|refine zA rfl ?_|refine zB rfl rfl rfl ?_|refine zR ?_|refine zT (by decide+kernel) (by decide+kernel) ?_|refine yB ?_|refine yC ?_)
    refine rg_indexD (a + k) rfl rfl (by first | with_reducible rfl | omega | (simp (disch := omega) only [wIn]; done) | (simp (disch := omega) only [wIn]; omega)) (by first | omega | (simp only [Array.size_setIfInBounds, Sort.swp_size]; omega)) ?_
    refine rg_loadD rfl (by first | omega | (simp only [Array.size_setIfInBounds, Sort.swp_size]; omega)) ?_
    repeat refine zA rfl ?_
    refine rg_indexD (a) rfl rfl (by first | with_reducible rfl | omega | (simp (disch := omega) only [wIn, td2, td4, td8]; done) | (simp (disch := omega) only [wIn, td2, td4, td8]; omega)) (by first | omega | (simp only [Array.size_setIfInBounds, Sort.swp_size]; omega)) ?_
    refine rg_loadD rfl (by first | omega | (simp only [Array.size_setIfInBounds, Sort.swp_size]; omega)) ?_
    skip
    refine rg_indexD (a) rfl rfl (by first | with_reducible rfl | omega | (simp (disch := omega) only [wIn, td2, td4, td8]; done) | (simp (disch := omega) only [wIn, td2, td4, td8]; omega)) (by first | omega | (simp only [Array.size_setIfInBounds, Sort.swp_size]; omega)) ?_
    refine rg_storeD rfl rfl (by first | omega | (simp only [Array.size_setIfInBounds, Sort.swp_size]; omega)) ?_
    skip
    refine rg_indexD (a + k) rfl rfl (by first | with_reducible rfl | omega | (simp (disch := omega) only [wIn]; done) | (simp (disch := omega) only [wIn]; omega)) (by first | omega | (simp only [Array.size_setIfInBounds, Sort.swp_size]; omega)) ?_
    refine rg_storeD rfl rfl (by first | omega | (simp only [Array.size_setIfInBounds, Sort.swp_size]; omega)) ?_
    repeat (first|refine zA rfl ?_|refine zQ ?_|refine zS ?_)
    refine rg_call rfl (siftDown_ok g n cap 0 k a (Sort.swp f a (a + k)) sk _ (by rw [Sort.swp_size]; exact k1) (by omega) hn2 (by omega)) ?_
    rintro _ _ ⟨rfl, rfl⟩
    refine ⟨.inl rfl, ?_⟩
    repeat (first|refine zA rfl ?_|refine zB rfl rfl rfl ?_|refine zG rfl ?_|refine zQ ?_|refine zS ?_|refine yD ?_)
    refine ex_inLoop ?_
    exact Ex.sup (IH2 (k, Sort.siftDown Sort.ltInt k a 0 (Sort.swp f a (a + k))) ⟨by rw [sd_size, Sort.swp_size]; exact k1, by dsimp only; omega, by exact k3⟩ (by exact Nat.lt_succ_self _)) ⟨vi (by first | with_reducible rfl | omega | (simp (disch := omega) only [wIn]; done) | (simp (disch := omega) only [wIn, td2, td4, td8]; omega)), rfl, rfl, rfl, trivial⟩
  have h6 := of_decide_eq_false h6
  have hk : k = 0 := by omega
  subst hk
  have h7 : f = Sort.heapSort Sort.ltInt d a b := k3
  rw [← h7] at ret
  repeat refine yE rfl ?_
  exact ex_endc ret Try.func97 rfl ⟨rfl, rfl⟩

set_option maxHeartbeats 1000000 in
theorem reverseRange_ok (g n cap a b : Nat) (d : Array Int) (sk : List Value) (Γ : List Ch) (hn : d.size = n) (hb : b ≤ n) (hn2 : n < 1152921504606846976) (ha : a < b) :
    CallsX Try.prog 100 #[dV g n cap, .int .i64 a, .int .i64 b] (dCh g d sk :: Γ) (fun v Δ => v = .tuple #[] ∧ Δ = dCh g (Sort.reverseRange d a b) sk :: Γ) := by
  refine calls_of_body (args := [dV g n cap, .int .i64 a, .int .i64 b]) Try.func100 rfl Try.ntmps100 fun X cs ret => ?_
  repeat (first|refine zA rfl ?_|refine zB rfl rfl rfl ?_|refine zG rfl ?_|refine zQ ?_|refine zR ?_|refine zS ?_|refine yC ?_)
  refine ex_loop ?_
  refine ex_ind (ι := Nat × Nat × Array Int) (fun s => s.2.1 - s.1) (fun s => [(6, .int .i64 s.1), (7, .int .i64 s.2.1), (0, dV g n cap)]) (fun s => dCh g s.2.2 sk :: Γ)
    (fun s => s.2.2.size = n ∧ s.1 ≤ n ∧ s.2.1 < n ∧ Sort.reverseLoop s.1 s.2.1 s.2.2 = Sort.reverseRange d a b) (a, b - 1, d) ⟨hn, by dsimp only; omega, by dsimp only; omega, rfl⟩ ⟨rfl, vi (by first | with_reducible rfl | omega | (simp (disch := omega) only [wIn]; done) | (simp (disch := omega) only [wIn]; omega)), rfl, trivial⟩ rfl (fun ⟨i, j, e⟩ ⟨h1, h2, h2', h3⟩ IH => ?_)
  dsimp only at h1 h2 h2' h3 ⊢
  repeat (first|refine zA rfl ?_|refine zB rfl rfl rfl ?_|refine zQ ?_|refine zR ?_|refine zS ?_)
  refine ex_cond_split rfl (fun h4 => ?_) (fun h4 => ?_)
  · have h4 := of_decide_eq_true h4
    have h4' : i < j := by omega
    repeat (first|refine zA rfl ?_|refine zR ?_|refine zT (by decide+kernel) (by decide+kernel) ?_|refine yB ?_|refine yC ?_)
    refine rg_indexD (j) rfl rfl (by first | with_reducible rfl | omega | (simp (disch := omega) only [wIn, td2, td4, td8]; done) | (simp (disch := omega) only [wIn, td2, td4, td8]; omega)) (by first | omega | (simp only [Array.size_setIfInBounds, Sort.swp_size]; omega)) ?_
    refine rg_loadD rfl (by first | omega | (simp only [Array.size_setIfInBounds, Sort.swp_size]; omega)) ?_
    repeat refine zA rfl ?_
    refine rg_indexD (i) rfl rfl (by first | with_reducible rfl | omega | (simp (disch := omega) only [wIn, td2, td4, td8]; done) | (simp (disch := omega) only [wIn, td2, td4, td8]; omega)) (by first | omega | (simp only [Array.size_setIfInBounds, Sort.swp_size]; omega)) ?_
    refine rg_loadD rfl (by first | omega | (simp only [Array.size_setIfInBounds, Sort.swp_size]; omega)) ?_
    skip
    refine rg_indexD (i) rfl rfl (by first | with_reducible rfl | omega | (simp (disch := omega) only [wIn, td2, td4, td8]; done) | (simp (disch := omega) only [wIn, td2, td4, td8]; omega)) (by first | omega | (simp only [Array.size_setIfInBounds, Sort.swp_size]; omega)) ?_
    refine rg_storeD rfl rfl (by first | omega | (simp only [Array.size_setIfInBounds, Sort.swp_size]; omega)) ?_
    skip
    refine rg_indexD (j) rfl rfl (by first | with_reducible rfl | omega | (simp (disch := omega) only [wIn, td2, td4, td8]; done) | (simp (disch := omega) only [wIn, td2, td4, td8]; omega)) (by first | omega | (simp only [Array.size_setIfInBounds, Sort.swp_size]; omega)) ?_
    refine rg_storeD rfl rfl (by first | omega | (simp only [Array.size_setIfInBounds, Sort.swp_size]; omega)) ?_
    repeat (first|refine zA rfl ?_|refine zB rfl rfl rfl ?_|refine zG rfl ?_|refine zQ ?_|refine zR ?_|refine zS ?_|refine yD ?_)
    refine ex_inLoop ?_
    exact Ex.sup (IH (i + 1, j - 1, Sort.swp e i j) ⟨by rw [Sort.swp_size]; exact h1, by dsimp only; omega, by dsimp only; omega, by dsimp only; rw [← h3]; conv => rhs; rw [Sort.reverseLoop, if_pos h4']⟩ (by dsimp only; omega)) ⟨vi (by first | with_reducible rfl | omega | (simp (disch := omega) only [wIn]; done) | (simp (disch := omega) only [wIn]; omega)), vi (by first | with_reducible rfl | omega | (simp (disch := omega) only [wIn]; done) | (simp (disch := omega) only [wIn]; omega)), rfl, trivial⟩
  have h4 := of_decide_eq_false h4
  have h7 : Sort.reverseRange d a b = e := by rw [← h3, Sort.reverseLoop, if_neg (by omega)]
  rw [h7] at ret
  repeat refine yE rfl ?_
  exact ex_endc ret Try.func100 rfl ⟨rfl, rfl⟩

end Go.Br

namespace Go.Br
open Go Go.Lx Go.Proofs
open Go.Lx renaming rg_move → zA, rg_int → zB, rg_nilCheck → zC, rg_fieldAddr0 → zD, rg_fieldAddr → zE, rg_load → zF, rg_assign → zG, rg_loadAgg → zH, rg_extract → zI, rg_not → zJ, rg_pick → zK, rg_off → zL, rg_offU → zM, rg_store → zN, rg_storeAgg → zO, rg_convInt → zP, rg_done → zQ, ex_seq → zR, rg_start_s → zS, rg_start_d → zT, ex_cond_true → zU, ex_cond_false → zV, rg_alloc → zW, rg_boxAgg → zX, rg_build → zY, rg_lenSl → zZ, rg_lenMap → yA, ex_skip → yB, ex_block → yC, ex_inBlock → yD, ex_exit → yE, rg_caseG → yZ
set_option maxRecDepth 100000

abbrev swC (b : Nat) (s : Int) : Ch := .pt b true (.cells ⟨[.int .i64 s]⟩ 3 (0, 0))

set_option maxHeartbeats 1000000 in
theorem order2_ok (g n cap a b sw : Nat) (s : Int) (d : Array Int) (sk : List Value) (Γ : List Ch) (hn : d.size = n) (ha : a < n) (hb : b < n) :
    CallsX Try.prog 113 #[dV g n cap, .int .i64 a, .int .i64 b, .pointer (some ⟨sw, 0, none⟩)] (swC sw s :: dCh g d sk :: Γ) (fun v Δ => ∃ (x y : Nat) (s' : Int), v = .tuple #[.int .i64 x, .int .i64 y] ∧ (x = a ∧ y = b ∨ x = b ∧ y = a) ∧ Δ = swC sw s' :: dCh g d sk :: Γ) := by
  refine calls_of_body (args := [dV g n cap, .int .i64 a, .int .i64 b, .pointer (some ⟨sw, 0, none⟩)]) Try.func113 rfl Try.ntmps113 fun X cs ret => ?_
  repeat (first|refine zA rfl ?_|refine zG rfl ?_|refine zQ ?_|refine zR ?_|refine zS ?_|refine zT (by decide+kernel) (by decide+kernel) ?_)
  refine rg_indexD (b) rfl rfl (by first | with_reducible rfl | omega | (simp (disch := omega) only [wIn, td2, td4, td8]; done) | (simp (disch := omega) only [wIn, td2, td4, td8]; omega)) (by first | omega | (simp only [Array.size_setIfInBounds, Sort.swp_size]; omega)) ?_
  refine rg_loadD rfl (by first | omega | (simp only [Array.size_setIfInBounds, Sort.swp_size]; omega)) ?_
  repeat refine zA rfl ?_
  refine rg_indexD (a) rfl rfl (by first | with_reducible rfl | omega | (simp (disch := omega) only [wIn, td2, td4, td8]; done) | (simp (disch := omega) only [wIn, td2, td4, td8]; omega)) (by first | omega | (simp only [Array.size_setIfInBounds, Sort.swp_size]; omega)) ?_
  refine rg_loadD rfl (by first | omega | (simp only [Array.size_setIfInBounds, Sort.swp_size]; omega)) ?_
  refine rg_call rfl (less_ok _ _ _) ?_
  rintro _ _ ⟨rfl, rfl⟩
  refine ⟨.inr (by (repeat' first | exact trivial | refine ⟨.inl (by decide +kernel), ?_⟩)), ?_⟩
  repeat refine zQ ?_
  refine ex_cond_split rfl (fun h6 => ?_) (fun h6 => ?_)
  · repeat (first|refine zA rfl ?_|refine zB rfl rfl rfl ?_|refine zC rfl ?_|refine zF rfl ?_|refine zG rfl ?_|refine zN rfl rfl ?_|refine zQ ?_|refine zR ?_|refine zS ?_)
    exact ex_retc ret Try.func113 rfl ⟨b, a, _, rfl, .inr ⟨rfl, rfl⟩, rfl⟩
  · repeat (first|refine zA rfl ?_|refine zG rfl ?_|refine zQ ?_|refine zR ?_|refine zS ?_|refine yB ?_)
    exact ex_retc ret Try.func113 rfl ⟨a, b, _, rfl, .inl ⟨rfl, rfl⟩, rfl⟩

set_option maxHeartbeats 1000000 in
theorem median_ok (g n cap a b c sw : Nat) (s : Int) (d : Array Int) (sk : List Value) (Γ : List Ch) (hn : d.size = n) (ha : a < n) (hb : b < n) (hc : c < n) :
    CallsX Try.prog 111 #[dV g n cap, .int .i64 a, .int .i64 b, .int .i64 c, .pointer (some ⟨sw, 0, none⟩)] (swC sw s :: dCh g d sk :: Γ) (fun v Δ => ∃ (x : Nat) (s' : Int), v = .int .i64 x ∧ (x = a ∨ x = b ∨ x = c) ∧ Δ = swC sw s' :: dCh g d sk :: Γ) := by
  refine calls_of_body (args := [dV g n cap, .int .i64 a, .int .i64 b, .int .i64 c, .pointer (some ⟨sw, 0, none⟩)]) Try.func111 rfl Try.ntmps111 fun X cs ret => ?_
  repeat (first|refine zA rfl ?_|refine zG rfl ?_|refine zQ ?_|refine zR ?_|refine zS ?_)
  refine rg_call rfl (order2_ok g n cap a b sw s d sk _ hn ha hb) ?_
  rintro _ _ ⟨a1, b1, s1, rfl, k1, rfl⟩
  refine ⟨.inl rfl, ?_⟩
  repeat (first|refine zA rfl ?_|refine zG rfl ?_|refine zI rfl rfl ?_|refine zQ ?_|refine zR ?_|refine zS ?_)
  refine rg_call rfl (order2_ok g n cap b1 c sw s1 d sk _ hn (by omega) hc) ?_
  rintro _ _ ⟨b2, c2, s2, rfl, k2, rfl⟩
  refine ⟨.inl rfl, ?_⟩
  repeat (first|refine zA rfl ?_|refine zG rfl ?_|refine zI rfl rfl ?_|refine zQ ?_|refine zR ?_|refine zS ?_)
  refine rg_call rfl (order2_ok g n cap a1 b2 sw s2 d sk _ hn (by omega) (by omega)) ?_
  rintro _ _ ⟨a3, b3, s3, rfl, k3, rfl⟩
  refine ⟨.inl rfl, ?_⟩
  repeat (first|refine zA rfl ?_|refine zG rfl ?_|refine zI rfl rfl ?_|refine zQ ?_|refine zR ?_|refine zS ?_)
  exact ex_retc ret Try.func111 rfl ⟨b3, _, rfl, by omega, rfl⟩

set_option maxHeartbeats 1000000 in
theorem medianAdj_ok (g n cap a sw : Nat) (s : Int) (d : Array Int) (sk : List Value) (Γ : List Ch) (hn : d.size = n) (ha : 0 < a) (hb : a + 1 < n) (hn2 : n < 1152921504606846976) :
    CallsX Try.prog 110 #[dV g n cap, .int .i64 a, .pointer (some ⟨sw, 0, none⟩)] (swC sw s :: dCh g d sk :: Γ) (fun v Δ => ∃ (x : Nat) (s' : Int), v = .int .i64 x ∧ (a ≤ x + 1 ∧ x ≤ a + 1) ∧ Δ = swC sw s' :: dCh g d sk :: Γ) := by
  refine calls_of_body (args := [dV g n cap, .int .i64 a, .pointer (some ⟨sw, 0, none⟩)]) Try.func110 rfl Try.ntmps110 fun X cs ret => ?_
  repeat (first|refine zA rfl ?_|refine zB rfl rfl rfl ?_|refine zG rfl ?_|refine zQ ?_|refine zR ?_|refine zS ?_)
  have e1 : IntKind.wrap .i64 ((a : Int) - 1) = ((a - 1 : Nat) : Int) := by rw [wI]; omega
  have e2 : IntKind.wrap .i64 ((a : Int) + 1) = ((a + 1 : Nat) : Int) := by rw [wI]; omega
  rw [e1, e2]
  refine rg_call rfl (median_ok g n cap (a - 1) a (a + 1) sw s d sk _ hn (by omega) (by omega) (by omega)) ?_
  rintro _ _ ⟨x, s', rfl, hx, rfl⟩
  refine ⟨.inl rfl, ?_⟩
  repeat (first|refine zG rfl ?_|refine zQ ?_)
  exact ex_retc ret Try.func110 rfl ⟨x, _, rfl, by omega, rfl⟩

set_option maxHeartbeats 2000000 in
theorem choosePivot_ok (g n cap a b : Nat) (d : Array Int) (sk : List Value) (Γ : List Ch) (hn : d.size = n) (ha : a < b) (hb : b ≤ n) (hn2 : n < 1152921504606846976) :
    CallsX Try.prog 99 #[dV g n cap, .int .i64 a, .int .i64 b] (dCh g d sk :: Γ) (fun v Δ => ∃ (p : Nat) (hh : Int), v = .tuple #[.int .i64 p, .int .i64 hh] ∧ a ≤ p ∧ p < b ∧ Δ = dCh g d sk :: Γ) := by
  refine calls_of_body (args := [dV g n cap, .int .i64 a, .int .i64 b]) Try.func99 rfl Try.ntmps99 fun X cs ret => ?_
  repeat (first|refine zA rfl ?_|refine zB rfl rfl rfl ?_|refine zG rfl ?_|refine zQ ?_|refine zR ?_|refine zS ?_|refine zW fun bl=>?_)
  have e1 : IntKind.wrap .i64 ((b : Int) - (a : Int)) = ((b - a : Nat) : Int) := by rw [wI]; omega
  rw [e1]
  refine rg_quo rfl rfl (by decide) ?_
  repeat (first|refine zA rfl ?_|refine zB rfl rfl rfl ?_|refine zG rfl ?_|refine zQ ?_|refine zR ?_|refine zS ?_)
  refine rg_quo rfl rfl (by decide) ?_
  repeat (first|refine zA rfl ?_|refine zB rfl rfl rfl ?_|refine zG rfl ?_|refine zQ ?_|refine zR ?_|refine zS ?_)
  refine rg_quo rfl rfl (by decide) ?_
  repeat (first|refine zB rfl rfl rfl ?_|refine zG rfl ?_|refine zQ ?_|refine zR ?_)
  refine Ex.sup (E' := [(10, .int .i64 (a + (b - a) / 4 * 1 : Nat)), (11, .int .i64 (a + (b - a) / 4 * 2 : Nat)), (12, .int .i64 (a + (b - a) / 4 * 3 : Nat)), (9, .pointer (some ⟨bl, 0, none⟩)), (8, .int .i64 (b - a : Nat)), (0, dV g n cap)]) ?_ ⟨vi (by first | with_reducible rfl | omega | (simp (disch := omega) only [wIn, td4]; done) | (simp (disch := omega) only [wIn, td4]; omega)), vi (by first | with_reducible rfl | omega | (simp (disch := omega) only [wIn, td4]; done) | (simp (disch := omega) only [wIn, td4]; omega)), vi (by first | with_reducible rfl | omega | (simp (disch := omega) only [wIn, td4]; done) | (simp (disch := omega) only [wIn, td4]; omega)), rfl, rfl, rfl, trivial⟩
  skip
  apply joinC (ι := Nat × Int) (fun s => a ≤ s.1 ∧ s.1 < b) (fun s => [(11, .int .i64 s.1), (9, .pointer (some ⟨bl, 0, none⟩))]) (fun s => swC bl s.2 :: dCh g d sk :: Γ)
  · intro J
    refine rg_start_s ?_
    repeat (first|refine zA rfl ?_|refine zB rfl rfl rfl ?_|refine zQ ?_)
    refine ex_cond_split rfl (fun h1 => ?_) (fun h1 => ?_)
    · have h1 := of_decide_eq_true h1
      repeat refine zR ?_
      refine rg_start_s ?_
      repeat (first|refine zA rfl ?_|refine zB rfl rfl rfl ?_|refine zQ ?_)
      apply joinC (ι := (Nat × Nat × Nat) × Int) (fun s => (a ≤ s.1.1 ∧ s.1.1 < b) ∧ (a ≤ s.1.2.1 ∧ s.1.2.1 < b) ∧ (a ≤ s.1.2.2 ∧ s.1.2.2 < b)) (fun s => [(10, .int .i64 s.1.1), (11, .int .i64 s.1.2.1), (12, .int .i64 s.1.2.2), (9, .pointer (some ⟨bl, 0, none⟩)), (0, dV g n cap)]) (fun s => swC bl s.2 :: dCh g d sk :: Γ)
      · intro J2
        refine ex_cond_split rfl (fun h2 => ?_) (fun h2 => ?_)
        · have h2 := of_decide_eq_true h2
          repeat (first|refine zA rfl ?_|refine zR ?_|refine zS ?_)
          refine rg_call rfl (medianAdj_ok g n cap (a + (b - a) / 4 * 1) bl 0 d sk _ hn (by omega) (by omega) hn2) ?_
          rintro _ _ ⟨i, s1, rfl, k1, rfl⟩
          refine ⟨.inl rfl, ?_⟩
          repeat (first|refine zA rfl ?_|refine zG rfl ?_|refine zQ ?_|refine zR ?_|refine zS ?_)
          refine rg_call rfl (medianAdj_ok g n cap (a + (b - a) / 4 * 2) bl s1 d sk _ hn (by omega) (by omega) hn2) ?_
          rintro _ _ ⟨j, s2, rfl, k2, rfl⟩
          refine ⟨.inl rfl, ?_⟩
          repeat (first|refine zA rfl ?_|refine zG rfl ?_|refine zQ ?_|refine zS ?_)
          refine rg_call rfl (medianAdj_ok g n cap (a + (b - a) / 4 * 3) bl s2 d sk _ hn (by omega) (by omega) hn2) ?_
          rintro _ _ ⟨l, s3, rfl, k3, rfl⟩
          refine ⟨.inl rfl, ?_⟩
          repeat (first|refine zG rfl ?_|refine zQ ?_)
          refine Ex.sup (J2 ((i, j, l), s3) ⟨by dsimp only; omega, by dsimp only; omega, by dsimp only; omega⟩) ?_
          exact ⟨rfl, rfl, rfl, rfl, rfl, trivial⟩
        · repeat refine yB ?_
          refine Ex.sup (J2 ((a + (b - a) / 4 * 1, a + (b - a) / 4 * 2, a + (b - a) / 4 * 3), 0) ⟨by dsimp only; omega, by dsimp only; omega, by dsimp only; omega⟩) ?_
          exact ⟨rfl, rfl, rfl, rfl, rfl, trivial⟩
      · rintro ⟨⟨i, j, l⟩, s⟩ ⟨k1, k2, k3⟩
        dsimp only at k1 k2 k3 ⊢
        repeat (first|refine zA rfl ?_|refine zS ?_)
        refine rg_call rfl (median_ok g n cap i j l bl s d sk _ hn (by omega) (by omega) (by omega)) ?_
        rintro _ _ ⟨p, s', rfl, hp, rfl⟩
        refine ⟨.inl rfl, ?_⟩
        repeat (first|refine zG rfl ?_|refine zQ ?_|refine zR ?_)
        refine Ex.sup (J (p, s') ⟨by dsimp only; omega, by dsimp only; omega⟩) ?_
        exact ⟨rfl, rfl, trivial⟩
    · repeat (first|refine zR ?_|refine yB ?_)
      refine Ex.sup (J (a + (b - a) / 4 * 2, 0) ⟨by dsimp only; omega, by dsimp only; omega⟩) ?_
      exact ⟨rfl, rfl, trivial⟩
  · rintro ⟨p, s⟩ ⟨k1, k2⟩
    dsimp only at k1 k2 ⊢
    repeat (first|refine zB rfl rfl rfl ?_|refine zF rfl ?_|refine zG rfl ?_|refine zQ ?_|refine zR ?_|refine zS ?_|refine yC ?_)
    refine ex_cond_split rfl (fun h1 => ?_) (fun h1 => ?_)
    · repeat (first|refine zA rfl ?_|refine zG rfl ?_|refine zQ ?_|refine zR ?_|refine zS ?_)
      exact ex_rete ret Try.func99 rfl (Ent.drop (Ent.refl _)) ⟨p, _, rfl, k1, k2, rfl⟩
    repeat (first|refine zB rfl rfl rfl ?_|refine zG rfl ?_|refine zQ ?_|refine zR ?_|refine zS ?_)
    refine ex_cond_split rfl (fun h1 => ?_) (fun h1 => ?_)
    · repeat (first|refine zA rfl ?_|refine zG rfl ?_|refine zQ ?_|refine zR ?_|refine zS ?_)
      exact ex_rete ret Try.func99 rfl (Ent.drop (Ent.refl _)) ⟨p, _, rfl, k1, k2, rfl⟩
    · repeat (first|refine zA rfl ?_|refine zG rfl ?_|refine zQ ?_|refine zR ?_|refine zS ?_)
      exact ex_rete ret Try.func99 rfl (Ent.drop (Ent.refl _)) ⟨p, _, rfl, k1, k2, rfl⟩

end Go.Br

namespace Go.Br
open Go Go.Lx Go.Proofs
open Go.Lx renaming rg_move → zA, rg_int → zB, rg_nilCheck → zC, rg_fieldAddr0 → zD, rg_fieldAddr → zE, rg_load → zF, rg_assign → zG, rg_loadAgg → zH, rg_extract → zI, rg_not → zJ, rg_pick → zK, rg_off → zL, rg_offU → zM, rg_store → zN, rg_storeAgg → zO, rg_convInt → zP, rg_done → zQ, ex_seq → zR, rg_start_s → zS, rg_start_d → zT, ex_cond_true → zU, ex_cond_false → zV, rg_alloc → zW, rg_boxAgg → zX, rg_build → zY, rg_lenSl → zZ, rg_lenMap → yA, ex_skip → yB, ex_block → yC, ex_inBlock → yD, ex_exit → yE, rg_caseG → yZ
set_option maxRecDepth 100000

theorem bitsLen_shift {x : Nat} (k : Nat) (h : 2 ^ k ≤ x) : Sort.bitsLen x = Sort.bitsLen (x / 2 ^ k) + k := by
  have hp : 0 < 2 ^ k := Nat.pow_pos (by decide)
  have hx := Sort.lt_two_pow_bitsLen x
  have hy := Sort.lt_two_pow_bitsLen (x / 2 ^ k)
  apply Nat.le_antisymm
  · rw [Sort.bitsLen_le_iff, Nat.pow_add]
    exact (Nat.div_lt_iff_lt_mul hp).1 hy
  · have hk : k ≤ Sort.bitsLen x := by
      rcases Nat.lt_or_ge (Sort.bitsLen x) k with hl | hl
      · have := (Sort.bitsLen_le_iff x k).1 (by omega); omega
      · exact hl
    have : Sort.bitsLen (x / 2 ^ k) ≤ Sort.bitsLen x - k := by
      rw [Sort.bitsLen_le_iff, Nat.div_lt_iff_lt_mul hp, ← Nat.pow_add, Nat.sub_add_cancel hk]
      exact hx
    omega

theorem fd (m c k : Nat) (h : c = k) : ((m : Int).fdiv (2 ^ c)) = ((m / 2 ^ k : Nat) : Int) := by
  subst h
  rw [Int.fdiv_eq_ediv_of_nonneg _ (Int.pow_nonneg (by decide)), Int.natCast_ediv, Int.natCast_pow]; rfl

theorem vu {x y : Int} (h : x = y) : some (Value.int .u64 x) = some (Value.int .u64 y) := by rw [h]
theorem toNat_lit (k : Nat) : Int.toNat (OfNat.ofNat k) = k := rfl

set_option maxHeartbeats 1000000 in
theorem len64_ok (x : Nat) (Γ : List Ch) (hx : x < 18446744073709551616) :
    CallsX Try.prog 106 #[.int .u64 x] Γ (fun v Δ => v = .int .i64 (Sort.bitsLen x) ∧ Δ = Γ) := by
  refine calls_of_body (args := [.int .u64 x]) Try.func106 rfl Try.ntmps106 fun X cs ret => ?_
  repeat refine zR ?_
  refine rg_start_s ?_
  repeat (first|refine zG rfl ?_|refine zQ ?_|refine zR ?_)
  refine rg_start_s ?_
  repeat (first|refine zA rfl ?_|refine zB rfl rfl rfl ?_|refine zQ ?_)
  apply joinC (ι := Nat × Nat) (fun s => s.1 < 4294967296 ∧ s.2 ≤ 32 ∧ Sort.bitsLen x = Sort.bitsLen s.1 + s.2) (fun s => [(0, .int .u64 s.1), (2, .int .i64 s.2)]) (fun _ => Γ)
  · intro J
    refine ex_cond_split rfl (fun h1 => ?_) (fun h1 => ?_)
    · have h1 := of_decide_eq_true h1
      repeat (first|refine zA rfl ?_|refine zR ?_|refine zS ?_)
      refine rg_shr rfl rfl (by decide) ?_
      repeat (first|refine zG rfl ?_|refine zQ ?_)
      refine rg_start_s ?_
      repeat (first|refine zG rfl ?_|refine zQ ?_|refine zR ?_)
      refine Ex.sup (J (x / 2 ^ 32, 32) ⟨by dsimp only; omega, by exact Nat.le_refl _, bitsLen_shift 32 (by omega)⟩) ?_
      exact ⟨vu (fd x _ 32 rfl), rfl, trivial⟩
    · have h1 := of_decide_eq_false h1
      repeat (first|refine zR ?_|refine yB ?_)
      refine Ex.sup (J (x, 0) ⟨by dsimp only; omega, by dsimp only; omega, by dsimp only; omega⟩) ?_
      exact ⟨rfl, rfl, trivial⟩
  rintro ⟨y, r⟩ ⟨k1, k2, k3⟩
  dsimp only at k1 k2 k3 ⊢
  skip
  refine rg_start_s ?_
  repeat (first|refine zA rfl ?_|refine zB rfl rfl rfl ?_|refine zQ ?_)
  apply joinC (ι := Nat × Nat) (fun s => s.1 < 65536 ∧ s.2 ≤ 48 ∧ Sort.bitsLen x = Sort.bitsLen s.1 + s.2) (fun s => [(0, .int .u64 s.1), (2, .int .i64 s.2)]) (fun _ => Γ)
  · intro J
    refine ex_cond_split rfl (fun h1 => ?_) (fun h1 => ?_)
    · have h1 := of_decide_eq_true h1
      have := bitsLen_shift (x := y) 16 (by omega)
      repeat (first|refine zA rfl ?_|refine zR ?_|refine zS ?_)
      refine rg_shr rfl rfl (by decide) ?_
      repeat (first|refine zG rfl ?_|refine zQ ?_)
      refine rg_start_s ?_
      repeat (first|refine zA rfl ?_|refine zB rfl rfl rfl ?_|refine zG rfl ?_|refine zQ ?_|refine zR ?_)
      refine Ex.sup (J (y / 2 ^ 16, r + 16) ⟨by dsimp only; omega, by dsimp only; omega, by dsimp only; omega⟩) ?_
      exact ⟨vu (fd y _ 16 rfl), vi (by first | with_reducible rfl | omega | (simp (disch := omega) only [wIn]; done) | (simp (disch := omega) only [wIn]; omega)), trivial⟩
    · have h1 := of_decide_eq_false h1
      repeat (first|refine zR ?_|refine yB ?_)
      refine Ex.sup (J (y, r) ⟨by dsimp only; omega, by dsimp only; omega, by dsimp only; omega⟩) ?_
      exact ⟨rfl, rfl, trivial⟩
  clear k1 k2 k3
  rintro ⟨y, r⟩ ⟨k1, k2, k3⟩
  dsimp only at k1 k2 k3 ⊢
  skip
  refine rg_start_s ?_
  repeat (first|refine zA rfl ?_|refine zB rfl rfl rfl ?_|refine zQ ?_)
  apply joinC (ι := Nat × Nat) (fun s => s.1 < 256 ∧ s.2 ≤ 56 ∧ Sort.bitsLen x = Sort.bitsLen s.1 + s.2) (fun s => [(0, .int .u64 s.1), (2, .int .i64 s.2)]) (fun _ => Γ)
  · intro J
    refine ex_cond_split rfl (fun h1 => ?_) (fun h1 => ?_)
    · have h1 := of_decide_eq_true h1
      have := bitsLen_shift (x := y) 8 (by omega)
      repeat (first|refine zA rfl ?_|refine zR ?_|refine zS ?_)
      refine rg_shr rfl rfl (by decide) ?_
      repeat (first|refine zG rfl ?_|refine zQ ?_)
      refine rg_start_s ?_
      repeat (first|refine zA rfl ?_|refine zB rfl rfl rfl ?_|refine zG rfl ?_|refine zQ ?_|refine zR ?_)
      refine Ex.sup (J (y / 2 ^ 8, r + 8) ⟨by dsimp only; omega, by dsimp only; omega, by dsimp only; omega⟩) ?_
      exact ⟨vu (fd y _ 8 rfl), vi (by first | with_reducible rfl | omega | (simp (disch := omega) only [wIn]; done) | (simp (disch := omega) only [wIn]; omega)), trivial⟩
    · have h1 := of_decide_eq_false h1
      repeat (first|refine zR ?_|refine yB ?_)
      refine Ex.sup (J (y, r) ⟨by dsimp only; omega, by dsimp only; omega, by dsimp only; omega⟩) ?_
      exact ⟨rfl, rfl, trivial⟩
  clear k1 k2 k3
  rintro ⟨y, r⟩ ⟨k1, k2, k3⟩
  dsimp only at k1 k2 k3 ⊢
  repeat (first|refine zA rfl ?_|refine zP rfl ?_|refine zS ?_)
  have e1 : IntKind.wrap .u8 (y : Int) = (y : Int) := by
    simp only [IntKind.wrap, IntKind.bits, IntKind.signed, Bool.false_and, Bool.false_eq_true, if_false]; omega
  rw [e1]
  have hy8 : Sort.bitsLen y ≤ 8 := (Sort.bitsLen_le_iff y 8).2 (by omega)
  refine rg_indexStr (c := UInt8.ofNat (Sort.bitsLen y)) rfl rfl (by omega) ?_ ?_
  · rw [Int.toNat_natCast]
    clear hy8 e1 k3
    revert y
    decide +kernel
  have e2 : (UInt8.ofNat (Sort.bitsLen y)).toNat = Sort.bitsLen y := by
    rw [UInt8.toNat_ofNat']; omega
  rw [e2]
  repeat (first|refine zB rfl rfl rfl ?_|refine zG rfl ?_|refine zP rfl ?_|refine zQ ?_)
  refine ex_retc ret Try.func106 rfl ⟨?_, rfl⟩
  show Value.int .i64 _ = Value.int .i64 _
  simp (disch := omega) only [wIn]
  rw [k3]; congr 1; omega

theorem len_ok (x : Nat) (Γ : List Ch) (hx : x < 18446744073709551616) :
    CallsX Try.prog 90 #[.int .u64 x] Γ (fun v Δ => v = .int .i64 (Sort.bitsLen x) ∧ Δ = Γ) := by
  refine calls_of_body (args := [.int .u64 x]) Try.func90 rfl Try.ntmps90 fun X cs ret => ?_
  repeat (first|refine zA rfl ?_|refine zG rfl ?_|refine zQ ?_|refine zR ?_|refine zS ?_|refine zV rfl ?_|refine yB ?_)
  refine rg_call rfl (len64_ok x _ hx) ?_
  rintro _ _ ⟨rfl, rfl⟩
  refine ⟨.inl rfl, ?_⟩
  repeat (first|refine zG rfl ?_|refine zQ ?_)
  exact ex_retc ret Try.func90 rfl ⟨rfl, rfl⟩

end Go.Br

namespace Go.Br
open Go Go.Lx Go.Proofs
open Go.Lx renaming rg_move → zA, rg_int → zB, rg_nilCheck → zC, rg_fieldAddr0 → zD, rg_fieldAddr → zE, rg_load → zF, rg_assign → zG, rg_loadAgg → zH, rg_extract → zI, rg_not → zJ, rg_pick → zK, rg_off → zL, rg_offU → zM, rg_store → zN, rg_storeAgg → zO, rg_convInt → zP, rg_done → zQ, ex_seq → zR, rg_start_s → zS, rg_start_d → zT, ex_cond_true → zU, ex_cond_false → zV, rg_alloc → zW, rg_boxAgg → zX, rg_build → zY, rg_lenSl → zZ, rg_lenMap → yA, ex_skip → yB, ex_block → yC, ex_inBlock → yD, ex_exit → yE, rg_caseG → yZ
set_option maxRecDepth 100000

theorem nextPow_ok (l : Nat) (Γ : List Ch) (h1 : 0 < l) (h2 : l < 1152921504606846976) :
    CallsX Try.prog 108 #[.int .i64 l] Γ (fun v Δ => v = .int .u64 (2 ^ Sort.bitsLen l : Nat) ∧ Δ = Γ) := by
  refine calls_of_body (args := [.int .i64 l]) Try.func108 rfl Try.ntmps108 fun X cs ret => ?_
  repeat (first|refine zA rfl ?_|refine zG rfl ?_|refine zP rfl ?_|refine zQ ?_|refine zR ?_|refine zS ?_)
  rw [show IntKind.wrap .u64 (l : Int) = (l : Int) by rw [wU]; omega]
  refine rg_call rfl (len_ok l _ (by omega)) ?_
  rintro _ _ ⟨rfl, rfl⟩
  refine ⟨.inl rfl, ?_⟩
  refine rg_shl rfl rfl (by omega) ?_
  repeat (first|refine zG rfl ?_|refine zQ ?_)
  refine ex_retc ret Try.func108 rfl ⟨?_, rfl⟩
  have hr : Sort.bitsLen l ≤ 60 := (Sort.bitsLen_le_iff l 60).2 (by omega)
  have hp : 2 ^ Sort.bitsLen l ≤ 2 ^ 60 := Nat.pow_le_pow_right (by decide) hr
  have hmin : min (Int.toNat (Sort.bitsLen l : Int)) IntKind.u64.bits = Sort.bitsLen l := by
    rw [Int.toNat_natCast]; exact Nat.min_eq_left (by show _ ≤ 64; omega)
  show Value.int .u64 _ = Value.int .u64 _
  rw [hmin, wU, Int.one_mul, show ((2 : Int) ^ Sort.bitsLen l) = ((2 ^ Sort.bitsLen l : Nat) : Int) by rw [Int.natCast_pow]; rfl]
  generalize 2 ^ Sort.bitsLen l = m at hp
  congr 1
  omega

abbrev rdC (b : Nat) (s : Int) : Ch := .pt b true (.cells ⟨[.int .u64 s]⟩ 199 (0, 0))

theorem next_ok (r : Nat) (s : Int) (Γ : List Ch) :
    CallsX Try.prog 109 #[.pointer (some ⟨r, 0, none⟩)] (rdC r s :: Γ) (fun v Δ => ∃ z, v = .int .u64 z ∧ Δ = rdC r z :: Γ) := by
  refine calls_of_body (args := [.pointer (some ⟨r, 0, none⟩)]) Try.func109 rfl Try.ntmps109 fun X cs ret => ?_
  repeat (first|refine zA rfl ?_|refine zC rfl ?_|refine zF rfl ?_|refine zG rfl ?_|refine zQ ?_|refine zR ?_|refine zS ?_|refine zT (by decide+kernel) (by decide+kernel) ?_)
  refine rg_shl rfl rfl (by decide) ?_
  refine rg_xor rfl rfl ?_
  repeat (first|refine zA rfl ?_|refine zC rfl ?_|refine zF rfl ?_|refine zN rfl rfl ?_|refine zQ ?_|refine zR ?_|refine zT (by decide+kernel) (by decide+kernel) ?_)
  refine rg_shr rfl rfl (by decide) ?_
  refine rg_xor rfl rfl ?_
  repeat (first|refine zA rfl ?_|refine zC rfl ?_|refine zF rfl ?_|refine zN rfl rfl ?_|refine zQ ?_|refine zR ?_|refine zT (by decide+kernel) (by decide+kernel) ?_)
  refine rg_shl rfl rfl (by decide) ?_
  refine rg_xor rfl rfl ?_
  repeat (first|refine zA rfl ?_|refine zC rfl ?_|refine zF rfl ?_|refine zG rfl ?_|refine zN rfl rfl ?_|refine zQ ?_|refine zR ?_|refine zS ?_)
  exact ex_retc ret Try.func109 rfl ⟨_, rfl, rfl⟩

theorem and_low (z : Int) (r : Nat) (hr : r ≤ 60) : ∃ o : Nat, o < 2 ^ r ∧ IntKind.wrap .i64 (IntKind.wrap .u64 ((BitVec.ofInt 64 z &&& BitVec.ofInt 64 (IntKind.wrap .u64 (((2 ^ r : Nat) : Int) - 1))).toNat : Int)) = (o : Int) := by
  have hp : 2 ^ r ≤ 2 ^ 60 := Nat.pow_le_pow_right (by decide) hr
  have h0 : 0 < 2 ^ r := Nat.pow_pos (by decide)
  have e1 : IntKind.wrap .u64 (((2 ^ r : Nat) : Int) - 1) = ((2 ^ r - 1 : Nat) : Int) := by rw [wU]; omega
  rw [e1]
  have e2 : (BitVec.ofInt 64 ((2 ^ r - 1 : Nat) : Int)).toNat = 2 ^ r - 1 := by
    rw [BitVec.ofInt_natCast, BitVec.toNat_ofNat]; omega
  refine ⟨(BitVec.ofInt 64 z &&& BitVec.ofInt 64 ((2 ^ r - 1 : Nat) : Int)).toNat, ?_, ?_⟩
  · rw [BitVec.toNat_and, e2]
    have := @Nat.and_le_right (BitVec.ofInt 64 z).toNat (2 ^ r - 1)
    omega
  · have : (BitVec.ofInt 64 z &&& BitVec.ofInt 64 ((2 ^ r - 1 : Nat) : Int)).toNat ≤ 2 ^ r - 1 := by
      rw [BitVec.toNat_and, e2]; exact Nat.and_le_right
    rw [wU, wI]; omega

set_option maxHeartbeats 2000000 in
theorem breakPatterns_ok (g n cap a b : Nat) (d : Array Int) (sk : List Value) (Γ : List Ch) (hn : d.size = n) (hb : b ≤ n) (hn2 : n < 1152921504606846976) (ha : a ≤ b) :
    CallsX Try.prog 98 #[dV g n cap, .int .i64 a, .int .i64 b] (dCh g d sk :: Γ) (fun v Δ => ∃ e, v = .tuple #[] ∧ Sort.PermIn a b d e ∧ Δ = dCh g e sk :: Γ) := by
  refine calls_of_body (args := [dV g n cap, .int .i64 a, .int .i64 b]) Try.func98 rfl Try.ntmps98 fun X cs ret => ?_
  repeat (first|refine zA rfl ?_|refine zB rfl rfl rfl ?_|refine zG rfl ?_|refine zQ ?_|refine zR ?_|refine zS ?_)
  rw [show IntKind.wrap .i64 ((b : Int) - (a : Int)) = ((b - a : Nat) : Int) by rw [wI]; omega]
  refine ex_cond_split rfl (fun h1 => ?_) (fun h1 => ?_)
  · have h1 := of_decide_eq_true h1
    have h1' : 8 ≤ b - a := by omega
    have hr60 : Sort.bitsLen (b - a) ≤ 60 := (Sort.bitsLen_le_iff _ 60).2 (by omega)
    have hr2 := Sort.two_pow_bitsLen_le (n := b - a) (by omega)
    repeat (first|refine zA rfl ?_|refine zN rfl rfl ?_|refine zP rfl ?_|refine zQ ?_|refine zR ?_|refine zS ?_|refine zW fun bl=>?_)
    refine rg_call rfl (nextPow_ok (b - a) _ (by omega) (by omega)) ?_
    rintro _ _ ⟨rfl, rfl⟩
    refine ⟨.inl rfl, ?_⟩
    repeat (first|refine zA rfl ?_|refine zG rfl ?_|refine zQ ?_|refine zR ?_|refine zS ?_)
    refine rg_quo rfl rfl (by decide) ?_
    repeat (first|refine zB rfl rfl rfl ?_|refine zG rfl ?_|refine zQ ?_|refine yC ?_)
    refine ex_loop ?_
    refine ex_ind (ι := Nat × Int × Array Int) (fun s => a + (b - a) / 4 * 2 + 2 - s.1) (fun s => [(9, .int .i64 s.1), (8, .int .u64 (2 ^ Sort.bitsLen (b - a) : Nat)), (7, .pointer (some ⟨bl, 0, none⟩)), (6, .int .i64 (b - a : Nat)), (0, dV g n cap), (1, .int .i64 a)]) (fun s => rdC bl s.2.1 :: dCh g s.2.2 sk :: Γ)
      (fun s => s.2.2.size = n ∧ a ≤ s.1 ∧ s.1 ≤ a + (b - a) / 4 * 2 + 2 ∧ Sort.PermIn a b d s.2.2) (a + (b - a) / 4 * 2 - 1, _, d) ⟨hn, by dsimp only; omega, by dsimp only; omega, Sort.permIn_refl _ _ _⟩ ⟨vi (by first | with_reducible rfl | omega | (simp (disch := omega) only [wIn, td4]; done) | (simp (disch := omega) only [wIn, td4]; omega)), rfl, rfl, rfl, rfl, rfl, trivial⟩ rfl (fun ⟨i, z, e⟩ ⟨k1, k2, k3, k4⟩ IH => ?_)
    dsimp only at k1 k2 k3 k4 ⊢
    repeat (first|refine zA rfl ?_|refine zR ?_|refine zS ?_)
    refine rg_quo rfl rfl (by decide) ?_
    repeat (first|refine zB rfl rfl rfl ?_|refine zQ ?_)
    refine ex_cond_split rfl (fun h2 => ?_) (fun h2 => ?_)
    · have h2 := of_decide_eq_true h2
      simp (disch := omega) only [wIn, td4] at h2
      repeat (first|refine zR ?_|refine zS ?_|refine yB ?_|refine yC ?_)
      refine rg_call rfl (next_ok bl z _) ?_
      rintro _ _ ⟨z', rfl, rfl⟩
      refine ⟨.inl rfl, ?_⟩
      repeat (first|refine zA rfl ?_|refine zB rfl rfl rfl ?_)
      refine rg_and rfl rfl ?_
      repeat (first|refine zA rfl ?_|refine zB rfl rfl rfl ?_|refine zG rfl ?_|refine zP rfl ?_|refine zQ ?_|refine zR ?_|refine zS ?_)
      obtain ⟨o, ho, eo⟩ := and_low z' (Sort.bitsLen (b - a)) hr60
      have eo' : IntKind.i64.wrap (IntKind.u64.wrap ↑(BitVec.ofInt IntKind.u64.bits z' &&& BitVec.ofInt IntKind.u64.bits (IntKind.u64.wrap (((2 ^ Sort.bitsLen (b - a) : Nat) : Int) - 1))).toNat) = (o : Int) := eo
      rw [eo']
      apply joinC (ι := Nat) (fun o => o < b - a) (fun o => [(10, .int .i64 o), (9, .int .i64 i), (8, .int .u64 (2 ^ Sort.bitsLen (b - a) : Nat)), (7, .pointer (some ⟨bl, 0, none⟩)), (6, .int .i64 (b - a : Nat)), (0, dV g n cap), (1, .int .i64 a)]) (fun _ => rdC bl z' :: dCh g e sk :: Γ)
      · intro J
        refine ex_cond_split rfl (fun h3 => ?_) (fun h3 => ?_)
        · have h3 := of_decide_eq_true h3
          skip
          refine rg_start_s ?_
          repeat (first|refine zA rfl ?_|refine zB rfl rfl rfl ?_|refine zG rfl ?_|refine zQ ?_)
          refine Ex.sup (J (o - (b - a)) (by omega)) ?_
          exact ⟨vi (by first | with_reducible rfl | omega | (simp (disch := omega) only [wIn]; done) | (simp (disch := omega) only [wIn]; omega)), rfl, rfl, rfl, rfl, rfl, rfl, trivial⟩
        · have h3 := of_decide_eq_false h3
          repeat refine yB ?_
          refine Ex.sup (J o (by omega)) ?_
          exact ⟨rfl, rfl, rfl, rfl, rfl, rfl, rfl, trivial⟩
      · intro q hq
        repeat (first|refine zA rfl ?_|refine zB rfl rfl rfl ?_|refine zT (by decide+kernel) (by decide+kernel) ?_)
        refine rg_indexD (a + q) rfl rfl (by first | with_reducible rfl | omega | (simp (disch := omega) only [wIn]; done) | (simp (disch := omega) only [wIn]; omega)) (by first | omega | (simp only [Array.size_setIfInBounds, Sort.swp_size]; omega)) ?_
        refine rg_loadD rfl (by first | omega | (simp only [Array.size_setIfInBounds, Sort.swp_size]; omega)) ?_
        repeat refine zA rfl ?_
        refine rg_indexD (i) rfl rfl (by first | with_reducible rfl | omega | (simp (disch := omega) only [wIn, td2, td4, td8]; done) | (simp (disch := omega) only [wIn, td2, td4, td8]; omega)) (by first | omega | (simp only [Array.size_setIfInBounds, Sort.swp_size]; omega)) ?_
        refine rg_loadD rfl (by first | omega | (simp only [Array.size_setIfInBounds, Sort.swp_size]; omega)) ?_
        skip
        refine rg_indexD (i) rfl rfl (by first | with_reducible rfl | omega | (simp (disch := omega) only [wIn, td2, td4, td8]; done) | (simp (disch := omega) only [wIn, td2, td4, td8]; omega)) (by first | omega | (simp only [Array.size_setIfInBounds, Sort.swp_size]; omega)) ?_
        refine rg_storeD rfl rfl (by first | omega | (simp only [Array.size_setIfInBounds, Sort.swp_size]; omega)) ?_
        skip
        refine rg_indexD (a + q) rfl rfl (by first | with_reducible rfl | omega | (simp (disch := omega) only [wIn]; done) | (simp (disch := omega) only [wIn]; omega)) (by first | omega | (simp only [Array.size_setIfInBounds, Sort.swp_size]; omega)) ?_
        refine rg_storeD rfl rfl (by first | omega | (simp only [Array.size_setIfInBounds, Sort.swp_size]; omega)) ?_
        repeat (first|refine zA rfl ?_|refine zB rfl rfl rfl ?_|refine zG rfl ?_|refine zQ ?_|refine zS ?_|refine yD ?_)
        refine ex_inLoop ?_
        exact Ex.sup (IH (i + 1, z', Sort.swp e i (a + q)) ⟨by rw [Sort.swp_size]; exact k1, by dsimp only; omega, by dsimp only; omega, Sort.permIn_trans _ _ _ _ _ k4 (Sort.swp_permIn e a b i (a + q) (by omega) (by omega) (by omega) (by omega) (by omega))⟩ (by dsimp only; omega)) ⟨vi (by first | with_reducible rfl | omega | (simp (disch := omega) only [wIn]; done) | (simp (disch := omega) only [wIn]; omega)), rfl, rfl, rfl, rfl, rfl, trivial⟩
    · repeat refine yE rfl ?_
      exact ex_ende ret Try.func98 rfl (Ent.drop (Ent.refl _)) ⟨e, rfl, k4, rfl⟩
  · repeat refine yB ?_
    exact ex_endc ret Try.func98 rfl ⟨d, rfl, Sort.permIn_refl _ _ _, rfl⟩

end Go.Br
