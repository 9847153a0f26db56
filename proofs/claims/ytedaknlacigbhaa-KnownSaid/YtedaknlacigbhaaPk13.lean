/-
  Lemmas towards the law, proved without conditions of their own: The sort, 6: patterns broken.
-/
import Derived.Test.YtedaknlacigbhaaPk12
namespace Go.Br
open Go Go.Lx Go.Proofs
open Go.Lx renaming rg_move → zA, rg_int → zB, rg_nilCheck → zC, rg_fieldAddr0 → zD, rg_fieldAddr → zE, rg_load → zF, rg_assign → zG, rg_loadAgg → zH, rg_extract → zI, rg_not → zJ, rg_pick → zK, rg_off → zL, rg_offU → zM, rg_store → zN, rg_storeAgg → zO, rg_convInt → zP, rg_done → zQ, ex_seq → zR, rg_start_s → zS, rg_start_d → zT, ex_cond_true → zU, ex_cond_false → zV, rg_alloc → zW, rg_boxAgg → zX, rg_build → zY, rg_lenSl → zZ, rg_lenMap → yA, ex_skip → yB, ex_block → yC, ex_inBlock → yD, ex_exit → yE, rg_caseG → yZ
set_option maxRecDepth 100000

theorem nextPow_ok (l : Nat) (Γ : List Ch) (h1 : 0 < l) (h2 : l < 1152921504606846976) :
    CallsX Try.prog 108 #[.int .i64 l] Γ (fun v Δ => v = .int .u64 (2 ^ Sort.bitsLen l : Nat) ∧ Δ = Γ) := by
  refine calls_of_body (args := [.int .i64 l]) Try.func108 rfl Try.ntmps108 fun X cs ret => ?_
  repeat (first|refine zA rfl ?_|refine zG rfl ?_|refine zP rfl ?_|refine zQ ?_|refine zR ?_|refine zS ?_)
  rw [show IntKind.wrap .u64 (l : Int) = (l : Int) by rw [wU]; omega]
  refine rg_call rfl (len_ok l _ (by omega)) ?_
  rintro _ _ ⟨rfl, rfl⟩
  refine ⟨.inl rfl, ?_⟩
  refine rg_shl rfl rfl (by omega) ?_
  repeat (first|refine zG rfl ?_|refine zQ ?_)
  refine ex_retc ret Try.func108 rfl ⟨?_, rfl⟩
  have hr : Sort.bitsLen l ≤ 60 := (Sort.bitsLen_le_iff l 60).2 (by omega)
  have hp : 2 ^ Sort.bitsLen l ≤ 2 ^ 60 := Nat.pow_le_pow_right (by decide) hr
  have hmin : min (Int.toNat (Sort.bitsLen l : Int)) IntKind.u64.bits = Sort.bitsLen l := by
    rw [Int.toNat_natCast]; exact Nat.min_eq_left (by show _ ≤ 64; omega)
  show Value.int .u64 _ = Value.int .u64 _
  rw [hmin, wU, Int.one_mul, show ((2 : Int) ^ Sort.bitsLen l) = ((2 ^ Sort.bitsLen l : Nat) : Int) by rw [Int.natCast_pow]; rfl]
  generalize 2 ^ Sort.bitsLen l = m at hp
  congr 1
  omega

abbrev rdC (b : Nat) (s : Int) : Ch := .pt b true (.cells ⟨[.int .u64 s]⟩ 199 (0, 0))

theorem next_ok (r : Nat) (s : Int) (Γ : List Ch) :
    CallsX Try.prog 109 #[.pointer (some ⟨r, 0, none⟩)] (rdC r s :: Γ) (fun v Δ => ∃ z, v = .int .u64 z ∧ Δ = rdC r z :: Γ) := by
  refine calls_of_body (args := [.pointer (some ⟨r, 0, none⟩)]) Try.func109 rfl Try.ntmps109 fun X cs ret => ?_
  repeat (first|refine zA rfl ?_|refine zC rfl ?_|refine zF rfl ?_|refine zG rfl ?_|refine zQ ?_|refine zR ?_|refine zS ?_|refine zT (by decide+kernel) (by decide+kernel) ?_)
  refine rg_shl rfl rfl (by decide) ?_
  refine rg_xor rfl rfl ?_
  repeat (first|refine zA rfl ?_|refine zC rfl ?_|refine zF rfl ?_|refine zN rfl rfl ?_|refine zQ ?_|refine zR ?_|refine zT (by decide+kernel) (by decide+kernel) ?_)
  refine rg_shr rfl rfl (by decide) ?_
  refine rg_xor rfl rfl ?_
  repeat (first|refine zA rfl ?_|refine zC rfl ?_|refine zF rfl ?_|refine zN rfl rfl ?_|refine zQ ?_|refine zR ?_|refine zT (by decide+kernel) (by decide+kernel) ?_)
  refine rg_shl rfl rfl (by decide) ?_
  refine rg_xor rfl rfl ?_
  repeat (first|refine zA rfl ?_|refine zC rfl ?_|refine zF rfl ?_|refine zG rfl ?_|refine zN rfl rfl ?_|refine zQ ?_|refine zR ?_|refine zS ?_)
  exact ex_retc ret Try.func109 rfl ⟨_, rfl, rfl⟩

theorem and_low (z : Int) (r : Nat) (hr : r ≤ 60) : ∃ o : Nat, o < 2 ^ r ∧ IntKind.wrap .i64 (IntKind.wrap .u64 ((BitVec.ofInt 64 z &&& BitVec.ofInt 64 (IntKind.wrap .u64 (((2 ^ r : Nat) : Int) - 1))).toNat : Int)) = (o : Int) := by
  have hp : 2 ^ r ≤ 2 ^ 60 := Nat.pow_le_pow_right (by decide) hr
  have h0 : 0 < 2 ^ r := Nat.pow_pos (by decide)
  have e1 : IntKind.wrap .u64 (((2 ^ r : Nat) : Int) - 1) = ((2 ^ r - 1 : Nat) : Int) := by rw [wU]; omega
  rw [e1]
  have e2 : (BitVec.ofInt 64 ((2 ^ r - 1 : Nat) : Int)).toNat = 2 ^ r - 1 := by
    rw [BitVec.ofInt_natCast, BitVec.toNat_ofNat]; omega
  refine ⟨(BitVec.ofInt 64 z &&& BitVec.ofInt 64 ((2 ^ r - 1 : Nat) : Int)).toNat, ?_, ?_⟩
  · rw [BitVec.toNat_and, e2]
    have := @Nat.and_le_right (BitVec.ofInt 64 z).toNat (2 ^ r - 1)
    omega
  · have : (BitVec.ofInt 64 z &&& BitVec.ofInt 64 ((2 ^ r - 1 : Nat) : Int)).toNat ≤ 2 ^ r - 1 := by
      rw [BitVec.toNat_and, e2]; exact Nat.and_le_right
    rw [wU, wI]; omega

set_option maxHeartbeats 2000000 in
theorem breakPatterns_ok (g n cap a b : Nat) (d : Array Int) (sk : List Value) (Γ : List Ch) (hn : d.size = n) (hb : b ≤ n) (hn2 : n < 1152921504606846976) (ha : a ≤ b) :
    CallsX Try.prog 98 #[dV g n cap, .int .i64 a, .int .i64 b] (dCh g d sk :: Γ) (fun v Δ => ∃ e, v = .tuple #[] ∧ Sort.PermIn a b d e ∧ Δ = dCh g e sk :: Γ) := by
  refine calls_of_body (args := [dV g n cap, .int .i64 a, .int .i64 b]) Try.func98 rfl Try.ntmps98 fun X cs ret => ?_
  repeat (first|refine zA rfl ?_|refine zB rfl rfl rfl ?_|refine zG rfl ?_|refine zQ ?_|refine zR ?_|refine zS ?_)
  rw [show IntKind.wrap .i64 ((b : Int) - (a : Int)) = ((b - a : Nat) : Int) by rw [wI]; omega]
  refine ex_cond_split rfl (fun h1 => ?_) (fun h1 => ?_)
  · have h1 := of_decide_eq_true h1
    have h1' : 8 ≤ b - a := by omega
    have hr60 : Sort.bitsLen (b - a) ≤ 60 := (Sort.bitsLen_le_iff _ 60).2 (by omega)
    have hr2 := Sort.two_pow_bitsLen_le (n := b - a) (by omega)
    repeat (first|refine zA rfl ?_|refine zN rfl rfl ?_|refine zP rfl ?_|refine zQ ?_|refine zR ?_|refine zS ?_|refine zW fun bl=>?_)
    refine rg_call rfl (nextPow_ok (b - a) _ (by omega) (by omega)) ?_
    rintro _ _ ⟨rfl, rfl⟩
    refine ⟨.inl rfl, ?_⟩
    repeat (first|refine zA rfl ?_|refine zG rfl ?_|refine zQ ?_|refine zR ?_|refine zS ?_)
    refine rg_quo rfl rfl (by decide) ?_
    repeat (first|refine zB rfl rfl rfl ?_|refine zG rfl ?_|refine zQ ?_|refine yC ?_)
    refine ex_loop ?_
    refine ex_ind (ι := Nat × Int × Array Int) (fun s => a + (b - a) / 4 * 2 + 2 - s.1) (fun s => [(9, .int .i64 s.1), (8, .int .u64 (2 ^ Sort.bitsLen (b - a) : Nat)), (7, .pointer (some ⟨bl, 0, none⟩)), (6, .int .i64 (b - a : Nat)), (0, dV g n cap), (1, .int .i64 a)]) (fun s => rdC bl s.2.1 :: dCh g s.2.2 sk :: Γ)
      (fun s => s.2.2.size = n ∧ a ≤ s.1 ∧ s.1 ≤ a + (b - a) / 4 * 2 + 2 ∧ Sort.PermIn a b d s.2.2) (a + (b - a) / 4 * 2 - 1, _, d) ⟨hn, by dsimp only; omega, by dsimp only; omega, Sort.permIn_refl _ _ _⟩ ⟨vi (by first | with_reducible rfl | omega | (simp (disch := omega) only [wIn, td4]; done) | (simp (disch := omega) only [wIn, td4]; omega)), rfl, rfl, rfl, rfl, rfl, trivial⟩ rfl (fun ⟨i, z, e⟩ ⟨k1, k2, k3, k4⟩ IH => ?_)
    dsimp only at k1 k2 k3 k4 ⊢
    repeat (first|refine zA rfl ?_|refine zR ?_|refine zS ?_)
    refine rg_quo rfl rfl (by decide) ?_
    repeat (first|refine zB rfl rfl rfl ?_|refine zQ ?_)
    refine ex_cond_split rfl (fun h2 => ?_) (fun h2 => ?_)
    · have h2 := of_decide_eq_true h2
      simp (disch := omega) only [wIn, td4] at h2
      repeat (first|refine zR ?_|refine zS ?_|refine yB ?_|refine yC ?_)
      refine rg_call rfl (next_ok bl z _) ?_
      rintro _ _ ⟨z', rfl, rfl⟩
      refine ⟨.inl rfl, ?_⟩
      repeat (first|refine zA rfl ?_|refine zB rfl rfl rfl ?_)
      refine rg_and rfl rfl ?_
      repeat (first|refine zA rfl ?_|refine zB rfl rfl rfl ?_|refine zG rfl ?_|refine zP rfl ?_|refine zQ ?_|refine zR ?_|refine zS ?_)
      obtain ⟨o, ho, eo⟩ := and_low z' (Sort.bitsLen (b - a)) hr60
      have eo' : IntKind.i64.wrap (IntKind.u64.wrap ↑(BitVec.ofInt IntKind.u64.bits z' &&& BitVec.ofInt IntKind.u64.bits (IntKind.u64.wrap (((2 ^ Sort.bitsLen (b - a) : Nat) : Int) - 1))).toNat) = (o : Int) := eo
      rw [eo']
      apply joinC (ι := Nat) (fun o => o < b - a) (fun o => [(10, .int .i64 o), (9, .int .i64 i), (8, .int .u64 (2 ^ Sort.bitsLen (b - a) : Nat)), (7, .pointer (some ⟨bl, 0, none⟩)), (6, .int .i64 (b - a : Nat)), (0, dV g n cap), (1, .int .i64 a)]) (fun _ => rdC bl z' :: dCh g e sk :: Γ)
      · intro J
        refine ex_cond_split rfl (fun h3 => ?_) (fun h3 => ?_)
        · have h3 := of_decide_eq_true h3
          skip
          refine rg_start_s ?_
          repeat (first|refine zA rfl ?_|refine zB rfl rfl rfl ?_|refine zG rfl ?_|refine zQ ?_)
          refine Ex.sup (J (o - (b - a)) (by omega)) ?_
          exact ⟨vi (by first | with_reducible rfl | omega | (simp (disch := omega) only [wIn]; done) | (simp (disch := omega) only [wIn]; omega)), rfl, rfl, rfl, rfl, rfl, rfl, trivial⟩
        · have h3 := of_decide_eq_false h3
          repeat refine yB ?_
          refine Ex.sup (J o (by omega)) ?_
          exact ⟨rfl, rfl, rfl, rfl, rfl, rfl, rfl, trivial⟩
      · intro q hq
        repeat (first|refine zA rfl ?_|refine zB rfl rfl rfl ?_|refine zT (by decide+kernel) (by decide+kernel) ?_)
        refine rg_indexD (a + q) rfl rfl (by first | with_reducible rfl | omega | (simp (disch := omega) only [wIn]; done) | (simp (disch := omega) only [wIn]; omega)) (by first | omega | (simp only [Array.size_setIfInBounds, Sort.swp_size]; omega)) ?_
        refine rg_loadD rfl (by first | omega | (simp only [Array.size_setIfInBounds, Sort.swp_size]; omega)) ?_
        repeat refine zA rfl ?_
        refine rg_indexD (i) rfl rfl (by first | with_reducible rfl | omega | (simp (disch := omega) only [wIn, td2, td4, td8]; done) | (simp (disch := omega) only [wIn, td2, td4, td8]; omega)) (by first | omega | (simp only [Array.size_setIfInBounds, Sort.swp_size]; omega)) ?_
        refine rg_loadD rfl (by first | omega | (simp only [Array.size_setIfInBounds, Sort.swp_size]; omega)) ?_
        skip
        refine rg_indexD (i) rfl rfl (by first | with_reducible rfl | omega | (simp (disch := omega) only [wIn, td2, td4, td8]; done) | (simp (disch := omega) only [wIn, td2, td4, td8]; omega)) (by first | omega | (simp only [Array.size_setIfInBounds, Sort.swp_size]; omega)) ?_
        refine rg_storeD rfl rfl (by first | omega | (simp only [Array.size_setIfInBounds, Sort.swp_size]; omega)) ?_
        skip
        refine rg_indexD (a + q) rfl rfl (by first | with_reducible rfl | omega | (simp (disch := omega) only [wIn]; done) | (simp (disch := omega) only [wIn]; omega)) (by first | omega | (simp only [Array.size_setIfInBounds, Sort.swp_size]; omega)) ?_
        refine rg_storeD rfl rfl (by first | omega | (simp only [Array.size_setIfInBounds, Sort.swp_size]; omega)) ?_
        repeat (first|refine zA rfl ?_|refine zB rfl rfl rfl ?_|refine zG rfl ?_|refine zQ ?_|refine zS ?_|refine yD ?_)
        refine ex_inLoop ?_
        exact Ex.sup (IH (i + 1, z', Sort.swp e i (a + q)) ⟨by rw [Sort.swp_size]; exact k1, by dsimp only; omega, by dsimp only; omega, Sort.permIn_trans _ _ _ _ _ k4 (Sort.swp_permIn e a b i (a + q) (by omega) (by omega) (by omega) (by omega) (by omega))⟩ (by dsimp only; omega)) ⟨vi (by first | with_reducible rfl | omega | (simp (disch := omega) only [wIn]; done) | (simp (disch := omega) only [wIn]; omega)), rfl, rfl, rfl, rfl, rfl, trivial⟩
    · repeat refine yE rfl ?_
      exact ex_ende ret Try.func98 rfl (Ent.drop (Ent.refl _)) ⟨e, rfl, k4, rfl⟩
  · repeat refine yB ?_
    exact ex_endc ret Try.func98 rfl ⟨d, rfl, Sort.permIn_refl _ _ _, rfl⟩

end Go.Br
