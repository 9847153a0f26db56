/-
  Lemmas towards the law, proved without conditions of their own: THE LAW: the lists of errors that were handed out; looks. (Printed by wip/tools/gen_la8.py.); THE LAW: run. (Printed by wip/tools/gen_la9.py.).
-/
import Derived.Test.YtedaknlacigbhaaPk24
import Derived.Test.YtedaknlacigbhaaPk29
import Derived.Test.YtedaknlacigbhaaPk25
namespace Go.Br
open Go Go.Lx Go.Proofs
open Go.Lx renaming rg_move → zA, rg_int → zB, rg_nilCheck → zC, rg_fieldAddr0 → zD, rg_fieldAddr → zE, rg_load → zF, rg_assign → zG, rg_loadAgg → zH, rg_extract → zI, rg_not → zJ, rg_pick → zK, rg_off → zL, rg_offU → zM, rg_store → zN, rg_storeAgg → zO, rg_convInt → zP, rg_done → zQ, ex_seq → zR, rg_start_s → zS, rg_start_d → zT, ex_cond_true → zU, ex_cond_false → zV, rg_alloc → zW, rg_boxAgg → zX, rg_build → zY, rg_lenSl → zZ, rg_lenMap → yA, ex_skip → yB, ex_block → yC, ex_inBlock → yD, ex_exit → yE, rg_caseG → yZ
set_option maxRecDepth 100000

set_option maxHeartbeats 2000000 in
theorem errors_ok (w : Nat) (bs ls es l : Value) (lack : Bool) (xs lx : List Value) (n nl : Nat) (Γ : List Ch) (hn : n < 1000000000) (hnl : nl < 1000000000) :
    CallsX Try.prog 69 #[ptrV w, l] (wdC w bs ls es lack :: .pr (SlV 23 1 es lx nl) :: .pr (SlV 22 1 l xs n) :: Γ)
      (fun v Δ => ∃ es' l', v = .tuple #[] ∧ oneC l' = true ∧ Ent Δ (wdC w bs ls es' lack :: .pr (SlV 23 1 es' (lx ++ [l']) (nl + 1)) :: .pr (SlV 22 1 l' (List.replicate (n + 2) (errV nl)) (n + 2)) :: Γ)) := by
  refine CallsX.ent (front_ent 2) (CallsX.open_ (slp_shapeO (p := true)) fun z hz => ?_)
  obtain ⟨la, lc⟩ := z
  dsimp only at hz
  subst hz
  refine CallsX.ent (front_ent 2) (CallsX.open_ (slp_shapeO (p := true)) fun z hz => ?_)
  obtain ⟨sa, sc⟩ := z
  dsimp only at hz
  subst hz
  refine calls_of_body (args := [ptrV w, .slice la n lc]) Try.func69 rfl Try.ntmps69 fun X cs ret => ?_
  repeat (first|refine zA rfl ?_|refine zB rfl rfl rfl ?_|refine zC rfl ?_|refine zE rfl ?_|refine zF rfl ?_|refine zG rfl ?_|refine zQ ?_|refine zR ?_|refine zS ?_|refine zZ rfl ?_|refine yC ?_)
  rw [show IntKind.wrap .i64 (1000 + (nl : Int)) = 1000 + nl from wIn (by omega) (by omega)]
  refine ex_loop ?_
  (refine Ex.front 2 ?_; refine Ex.front 1 ?_; refine Ex.front 2 ?_)
  refine ex_ind (ι := Nat) (fun i => n + 1 - i) (fun i => [(15, .int .i64 i), (14, .int .i64 n), (1, .slice la n lc), (4, errV nl), (0, ptrV w)])
    (fun i => .pr (SlV 22 1 (.slice la n lc) (List.replicate i (errV nl) ++ xs.drop i) n) :: .pr (SlV 23 1 (.slice sa nl sc) lx nl) :: wdC w bs ls (.slice sa nl sc) lack :: Γ)
    (fun i => i ≤ n) 0 (Nat.zero_le _) ⟨rfl, rfl, rfl, rfl, rfl, trivial⟩ rfl (fun i hi IH => ?_)
  repeat (first|refine zB rfl rfl rfl ?_|refine zQ ?_|refine zR ?_|refine zS ?_)
  refine ex_cond_split rfl (fun h1 => ?_) (fun h1 => ?_)
  · have hlt : i < n := by have := of_decide_eq_true h1; omega
    repeat (first|refine zR ?_|refine yB ?_|refine yC ?_)
    refine ex_slp (p := true) (fun _ _ h => absurd h (by omega)) (fun b0 cap slack hs hz => ?_)
    simp only [Value.slice.injEq, true_and] at hs
    obtain ⟨rfl, rfl⟩ := hs
    have hxl : xs.length = n := by
      have := hz.2.1
      rw [List.length_append, List.length_replicate, List.length_drop] at this
      omega
    repeat (first|refine zA rfl ?_|refine zG rfl ?_|refine zQ ?_|refine zS ?_)
    refine rg_indexSl rfl rfl ⟨by omega, by omega⟩ ?_
    rw [Int.toNat_natCast, Nat.zero_add (i * 1), Nat.mul_one]
    haveI := set_front (m := errV nl) (slack := slack) hxl hlt
    refine rg_store rfl rfl ?_
    repeat (first|refine zQ ?_|refine yD ?_)
    refine Ex.ent (EntR.e (slp_fold b0 lc slack ⟨hz.1, by rw [List.length_append, List.length_replicate, List.length_drop]; omega, hz.2.2⟩)) ?_
    repeat (first|refine zA rfl ?_|refine zB rfl rfl rfl ?_|refine zQ ?_|refine zS ?_)
    refine ex_inLoop ?_
    rw [rwrap (by omega)]
    exact Ex.sup (IH (i + 1) (by omega) (by omega)) ⟨rfl, rfl, rfl, rfl, rfl, trivial⟩
  · have hge : i = n := by have := of_decide_eq_false h1; omega
    subst hge
    repeat (first|refine zR ?_|refine yE rfl ?_)
    refine Ex.open_ (slp_lenO (p := true)) fun _ hl => ?_
    have hd : xs.drop i = [] := by
      rw [List.length_append, List.length_replicate] at hl
      exact List.eq_nil_of_length_eq_zero (by omega)
    rw [hd, List.append_nil]
    repeat (first|refine zA rfl ?_|refine zS ?_)
    refine rg_buildSlice (vs := [errV nl, errV nl]) rfl rfl rfl rfl (fun b2 => ?_)
    (refine Rg.front 1 ?_)
    refine rg_append (xs := List.replicate i (errV nl)) (ys := [errV nl, errV nl]) (len := i) (c := 2) rfl rfl (.inr ⟨b2, 0, 2, true, [errV nl, errV nl], 22, (0, 0), rfl, Find.mem, inferInstance⟩) (fun v hv => by simp only [List.mem_cons, List.not_mem_nil, or_false] at hv; rcases hv with rfl | rfl <;> rfl) (by omega) (by omega) (fun s' => .inl rfl) (fun l' hone => ?_)
    repeat (first|refine zG rfl ?_|refine zQ ?_|refine zR ?_)
    refine Ex.open_ (slp_shapeO (p := true)) fun z hz => ?_
    obtain ⟨a', c'⟩ := z
    dsimp only at hz
    subst hz
    repeat (first|refine zA rfl ?_|refine zC rfl ?_|refine zE rfl ?_|refine zF rfl ?_|refine zS ?_)
    refine rg_buildSlice (vs := [.slice a' (i + 2) c']) rfl rfl rfl rfl (fun b3 => ?_)
    (refine Rg.front 3 ?_)
    refine rg_append (xs := lx) (ys := [.slice a' (i + 2) c']) (len := nl) (c := 1) rfl rfl (.inr ⟨b3, 0, 1, true, [.slice a' (i + 2) c'], 23, (0, 0), rfl, Find.mem, inferInstance⟩) (fun v hv => by rw [List.mem_singleton.1 hv]; rfl) (by omega) (by omega) (fun s' => .inl rfl) (fun es' hone' => ?_)
    repeat (first|refine zA rfl ?_|refine zC rfl ?_|refine zE rfl ?_|refine zG rfl ?_|refine zQ ?_|refine zS ?_)
    refine rg_store rfl rfl ?_ hone'
    repeat refine zQ ?_
    (refine Ex.front 2 ?_; refine Ex.front 1 ?_; refine Ex.front 4 ?_; refine Ex.front 4 ?_; refine Ex.front 4 ?_)
    refine ex_ende ret Try.func69 rfl (Ent.drop (Ent.drop (Ent.refl _))) ⟨es', .slice a' (i + 2) c', rfl, rfl, ?_⟩
    rw [show List.replicate i (errV nl) ++ [errV nl, errV nl] = List.replicate (i + 2) (errV nl) by
      rw [List.replicate_succ', List.replicate_succ']; simp]
    exact Ent.refl _

theorem markChs_split (el : Nat) (mk : Nat → Value) : ∀ (us : List (Value × Nat)) (j i : Nat) (u : Value × Nat), us[i]? = some u →
    markChs el mk j us = markChs el mk j (us.take i) ++ (.pr (SlV el 1 u.1 (List.replicate u.2 (mk (j + i))) u.2) :: markChs el mk (j + i + 1) (us.drop (i + 1)))
  | [], _, _, _, h => by cases h
  | v :: us, j, 0, u, h => by cases h; simp [markChs]
  | v :: us, j, i + 1, u, h => by
    simp only [markChs, List.take_succ_cons, List.drop_succ_cons, List.cons_append]
    rw [markChs_split el mk us (j + 1) i u (by simpa using h), show j + 1 + i = j + (i + 1) by omega]

/-- All marks but one list's. -/
def mrest (el : Nat) (mk : Nat → Value) (us : List (Value × Nat)) (i : Nat) : List Ch := markChs el mk 0 (us.take i) ++ markChs el mk (i + 1) (us.drop (i + 1))

theorem marks_perm {el : Nat} {mk : Nat → Value} {us : List (Value × Nat)} {i : Nat} {u : Value × Nat} (h : us[i]? = some u) : (markChs el mk 0 us).Perm (.pr (SlV el 1 u.1 (List.replicate u.2 (mk i)) u.2) :: mrest el mk us i) := by
  rw [markChs_split el mk us 0 i u h, Nat.zero_add]
  exact List.perm_middle

theorem marks_get {el : Nat} {mk : Nat → Value} {us : List (Value × Nat)} {i : Nat} {u : Value × Nat} {Γ : List Ch} (h : us[i]? = some u) : Ent (.pr (Star (markChs el mk 0 us)) :: Γ) (.pr (SlV el 1 u.1 (List.replicate u.2 (mk i)) u.2) :: .pr (Star (mrest el mk us i)) :: Γ) := .star fun h' st => by
  have s2 := (Star.open_.1 st).perm ((marks_perm (el := el) (mk := mk) h).append_right Γ)
  obtain ⟨a1, b1, j1, x1, r⟩ := (show Star (.pr (SlV el 1 u.1 (List.replicate u.2 (mk i)) u.2) :: (mrest el mk us i ++ Γ)) h' from s2)
  exact ⟨a1, b1, j1, x1, Star.open_.2 r⟩

theorem marks_put {el : Nat} {mk : Nat → Value} {us : List (Value × Nat)} {i : Nat} {u : Value × Nat} {Γ : List Ch} (h : us[i]? = some u) : Ent (.pr (SlV el 1 u.1 (List.replicate u.2 (mk i)) u.2) :: .pr (Star (mrest el mk us i)) :: Γ) (.pr (Star (markChs el mk 0 us)) :: Γ) := .star fun h' st => by
  obtain ⟨a1, b1, j1, x1, r⟩ := st
  have s0 : Star ((.pr (SlV el 1 u.1 (List.replicate u.2 (mk i)) u.2) :: mrest el mk us i) ++ Γ) h' := ⟨a1, b1, j1, x1, Star.open_.1 r⟩
  exact Star.open_.2 (s0.perm ((marks_perm (el := el) (mk := mk) h).symm.append_right Γ))

set_option maxHeartbeats 4000000 in
theorem looksU_ok (w : Nat) (bv lv ev : Value) (us vs : List (Value × Nat)) (Γ : List Ch) (nu : us.length < 1000000000) (nv : vs.length < 1000000000) (ul : ∀ u ∈ us, u.2 < 1000000000) (vl : ∀ u ∈ vs, u.2 < 1000000000) :
    CallsX Try.prog 40 #[ptrV w] (wdC w bv lv ev false :: .pr (SlV 53 1 lv (us.map (·.1)) us.length) :: .pr (SlV 23 1 ev (vs.map (·.1)) vs.length) :: .pr (Star (markChs 36 markV 0 us)) :: .pr (Star (markChs 22 errV 0 vs)) :: Γ)
      (fun v Δ => v = .bool true ∧ Ent Δ (wdC w bv lv ev false :: .pr (SlV 53 1 lv (us.map (·.1)) us.length) :: .pr (SlV 23 1 ev (vs.map (·.1)) vs.length) :: .pr (Star (markChs 36 markV 0 us)) :: .pr (Star (markChs 22 errV 0 vs)) :: Γ)) := by
  refine CallsX.ent (front_ent 1) (CallsX.open_ (slp_shapeO (p := true)) fun z hz => ?_)
  obtain ⟨sa1, sc1⟩ := z
  dsimp only at hz
  subst hz
  refine CallsX.ent (front_ent 2) (CallsX.open_ (slp_shapeO (p := true)) fun z hz => ?_)
  obtain ⟨sa2, sc2⟩ := z
  dsimp only at hz
  subst hz
  refine calls_of_body (args := [ptrV w]) Try.func40 rfl Try.ntmps40 fun X cs ret => ?_
  repeat (first|refine zA rfl ?_|refine zC rfl ?_|refine zE rfl ?_|refine zF rfl ?_|refine zG rfl ?_|refine zQ ?_|refine zR ?_|refine zS ?_|refine zZ rfl ?_|refine yC ?_)
  refine ex_loop ?_
  (refine Ex.front 4 ?_; refine Ex.front 1 ?_; refine Ex.front 3 ?_; refine Ex.front 4 ?_; refine Ex.front 4 ?_)
  refine ex_ind (ι := Nat) (fun i => us.length + 1 - i) (fun i => [(16, .int .i64 i), (15, .int .i64 us.length), (14, .slice sa1 us.length sc1), (0, ptrV w)]) (fun _ => .pr (SlV 53 1 (.slice sa1 us.length sc1) (us.map (·.1)) us.length) :: .pr (Star (markChs 36 markV 0 us)) :: wdC w bv (.slice sa1 us.length sc1) (.slice sa2 vs.length sc2) false :: .pr (SlV 23 1 (.slice sa2 vs.length sc2) (vs.map (·.1)) vs.length) :: .pr (Star (markChs 22 errV 0 vs)) :: Γ)
    (fun i => i ≤ us.length) 0 (Nat.zero_le _) ⟨rfl, rfl, rfl, rfl, trivial⟩ rfl (fun i hi IH => ?_)
  repeat (first|refine zB rfl rfl rfl ?_|refine zQ ?_|refine zR ?_|refine zS ?_)
  refine ex_cond_split rfl (fun h1 => ?_) (fun h1 => ?_)
  · have hlt : i < us.length := by have := of_decide_eq_true h1; omega
    obtain ⟨⟨u1, n1⟩, hu⟩ : ∃ u, us[i]? = some u := ⟨_, List.getElem?_eq_getElem hlt⟩
    have hul : n1 < 1000000000 := ul _ (List.mem_of_getElem? hu)
    refine ex_slp (p := true) (fun _ _ h => absurd h (by omega)) (fun b0 cap slack hs hz => ?_)
    simp only [Value.slice.injEq, true_and] at hs
    obtain ⟨rfl, rfl⟩ := hs
    (refine Ex.front 1 ?_)
    refine Ex.ent (marks_get hu) ?_
    refine Ex.open_ (slp_shapeO (p := true)) fun z hz1 => ?_
    obtain ⟨a, c⟩ := z
    dsimp only at hz1
    subst hz1
    have hg : (us.map (·.1) ++ slack)[i]? = some (.slice a n1 c) := by rw [List.getElem?_append_left (by simpa using hlt), List.getElem?_map, hu]; rfl
    repeat (first|refine zA rfl ?_|refine zR ?_|refine zS ?_|refine yB ?_|refine yC ?_)
    refine rg_indexSl rfl rfl ⟨by omega, by omega⟩ ?_
    rw [Int.toNat_natCast, Nat.zero_add (i * 1), Nat.mul_one]
    refine rg_load rfl ?_ hg
    repeat (first|refine zA rfl ?_|refine zG rfl ?_|refine zQ ?_|refine zR ?_|refine zS ?_|refine zZ rfl ?_|refine yC ?_)
    refine ex_loop ?_
    refine ex_ind (ι := Nat) (fun j => n1 + 1 - j) (fun j => [(23, .int .i64 j), (22, .int .i64 n1), (21, .slice a n1 c), (3, .int .i64 i), (16, .int .i64 i), (15, .int .i64 us.length), (14, .slice (some ⟨b0, 0, none⟩) us.length sc1), (0, ptrV w)])
      (fun _ => .pr (SlV 36 1 (.slice a n1 c) (List.replicate n1 (markV i)) n1) :: .pr (Star (mrest 36 markV us i)) :: .pt b0 true (.cells ⟨us.map (·.1) ++ slack⟩ 53 (0, 0)) :: wdC w bv (.slice (some ⟨b0, 0, none⟩) us.length sc1) (.slice sa2 vs.length sc2) false :: .pr (SlV 23 1 (.slice sa2 vs.length sc2) (vs.map (·.1)) vs.length) :: .pr (Star (markChs 22 errV 0 vs)) :: Γ) (fun j => j ≤ n1) 0 (Nat.zero_le _) ⟨rfl, rfl, rfl, rfl, rfl, rfl, rfl, rfl, trivial⟩ rfl (fun j hj IH2 => ?_)
    repeat (first|refine zB rfl rfl rfl ?_|refine zQ ?_|refine zR ?_|refine zS ?_)
    refine ex_cond_split rfl (fun h2 => ?_) (fun h2 => ?_)
    · have hjt : j < n1 := by have := of_decide_eq_true h2; omega
      refine ex_slp (p := true) (fun _ _ h => absurd h (by omega)) (fun b1 cap1 slack1 hs1 hz2 => ?_)
      simp only [Value.slice.injEq, true_and] at hs1
      obtain ⟨rfl, rfl⟩ := hs1
      have hg2 : (List.replicate n1 (markV i) ++ slack1)[j]? = some (markV i) := by rw [List.getElem?_append_left (by simpa using hjt)]; simp [hjt]
      repeat (first|refine zR ?_|refine zS ?_|refine yB ?_|refine yC ?_)
      refine rg_indexSl rfl rfl ⟨by omega, by omega⟩ ?_
      rw [Int.toNat_natCast, Nat.zero_add (j * 1), Nat.mul_one]
      refine rg_load rfl ?_ hg2
      repeat (first|refine zA rfl ?_|refine zB rfl rfl rfl ?_|refine zG rfl ?_|refine zP rfl ?_|refine zQ ?_|refine zR ?_|refine zS ?_)
      rw [show IntKind.wrap .u64 (i : Int) = i from wu_id (by omega), show IntKind.wrap .u64 (9223372036854775808 + (i : Int)) = 9223372036854775808 + i from wu_id (by omega)]
      refine ex_cond_split rfl (fun h3 => absurd h3 (by simp)) (fun _ => ?_)
      repeat (first|refine zA rfl ?_|refine zB rfl rfl rfl ?_|refine zQ ?_|refine zS ?_|refine yB ?_|refine yD ?_)
      refine Ex.ent (EntR.e (slp_fold b1 c slack1 hz2)) ?_
      refine ex_inLoop ?_
      rw [rwrap (x := (j : Int) + 1) (by omega)]
      exact Ex.sup (IH2 (j + 1) hjt (by omega)) ⟨rfl, rfl, rfl, rfl, rfl, rfl, rfl, rfl, trivial⟩
    · repeat (first|refine yD ?_|refine yE rfl ?_)
      refine Ex.ent (marks_put hu) ?_
      (refine Ex.front 1 ?_)
      refine Ex.ent (EntR.e (slp_fold b0 sc1 slack hz)) ?_
      repeat (first|refine zA rfl ?_|refine zB rfl rfl rfl ?_|refine zQ ?_|refine zS ?_)
      refine ex_inLoop ?_
      rw [rwrap (x := (i : Int) + 1) (by omega)]
      exact Ex.sup (IH (i + 1) hlt (by omega)) ⟨rfl, rfl, rfl, rfl, trivial⟩
  · have hge : i = us.length := by have := of_decide_eq_false h1; omega
    repeat (first|refine zA rfl ?_|refine zC rfl ?_|refine zE rfl ?_|refine zF rfl ?_|refine zQ ?_|refine zR ?_|refine zS ?_|refine zZ rfl ?_|refine yC ?_|refine yE rfl ?_)
    refine ex_loop ?_
    (refine Ex.front 1 ?_; refine Ex.front 1 ?_; refine Ex.front 2 ?_; refine Ex.front 4 ?_; refine Ex.front 4 ?_)
    clear IH
    refine ex_ind (ι := Nat) (fun i => vs.length + 1 - i) (fun i => [(39, .int .i64 i), (38, .int .i64 vs.length), (37, .slice sa2 vs.length sc2), (0, ptrV w)]) (fun _ => .pr (SlV 23 1 (.slice sa2 vs.length sc2) (vs.map (·.1)) vs.length) :: .pr (Star (markChs 22 errV 0 vs)) :: wdC w bv (.slice sa1 us.length sc1) (.slice sa2 vs.length sc2) false :: .pr (SlV 53 1 (.slice sa1 us.length sc1) (us.map (·.1)) us.length) :: .pr (Star (markChs 36 markV 0 us)) :: Γ)
      (fun i => i ≤ vs.length) 0 (Nat.zero_le _) ⟨rfl, rfl, rfl, rfl, trivial⟩ rfl (fun i hi IH => ?_)
    repeat (first|refine zB rfl rfl rfl ?_|refine zQ ?_|refine zR ?_|refine zS ?_)
    refine ex_cond_split rfl (fun h1 => ?_) (fun h1 => ?_)
    · have hlt : i < vs.length := by have := of_decide_eq_true h1; omega
      obtain ⟨⟨u1, n1⟩, hu⟩ : ∃ u, vs[i]? = some u := ⟨_, List.getElem?_eq_getElem hlt⟩
      have hul : n1 < 1000000000 := vl _ (List.mem_of_getElem? hu)
      refine ex_slp (p := true) (fun _ _ h => absurd h (by omega)) (fun b0 cap slack hs hz => ?_)
      simp only [Value.slice.injEq, true_and] at hs
      obtain ⟨rfl, rfl⟩ := hs
      (refine Ex.front 1 ?_)
      refine Ex.ent (marks_get hu) ?_
      refine Ex.open_ (slp_shapeO (p := true)) fun z hz1 => ?_
      obtain ⟨a, c⟩ := z
      dsimp only at hz1
      subst hz1
      have hg : (vs.map (·.1) ++ slack)[i]? = some (.slice a n1 c) := by rw [List.getElem?_append_left (by simpa using hlt), List.getElem?_map, hu]; rfl
      repeat (first|refine zA rfl ?_|refine zR ?_|refine zS ?_|refine yB ?_|refine yC ?_)
      refine rg_indexSl rfl rfl ⟨by omega, by omega⟩ ?_
      rw [Int.toNat_natCast, Nat.zero_add (i * 1), Nat.mul_one]
      refine rg_load rfl ?_ hg
      repeat (first|refine zA rfl ?_|refine zG rfl ?_|refine zQ ?_|refine zR ?_|refine zS ?_|refine zZ rfl ?_|refine yC ?_)
      refine ex_loop ?_
      refine ex_ind (ι := Nat) (fun j => n1 + 1 - j) (fun j => [(46, .int .i64 j), (45, .int .i64 n1), (44, .slice a n1 c), (7, .int .i64 i), (39, .int .i64 i), (38, .int .i64 vs.length), (37, .slice (some ⟨b0, 0, none⟩) vs.length sc2), (0, ptrV w)])
        (fun _ => .pr (SlV 22 1 (.slice a n1 c) (List.replicate n1 (errV i)) n1) :: .pr (Star (mrest 22 errV vs i)) :: .pt b0 true (.cells ⟨vs.map (·.1) ++ slack⟩ 23 (0, 0)) :: wdC w bv (.slice sa1 us.length sc1) (.slice (some ⟨b0, 0, none⟩) vs.length sc2) false :: .pr (SlV 53 1 (.slice sa1 us.length sc1) (us.map (·.1)) us.length) :: .pr (Star (markChs 36 markV 0 us)) :: Γ) (fun j => j ≤ n1) 0 (Nat.zero_le _) ⟨rfl, rfl, rfl, rfl, rfl, rfl, rfl, rfl, trivial⟩ rfl (fun j hj IH2 => ?_)
      repeat (first|refine zB rfl rfl rfl ?_|refine zQ ?_|refine zR ?_|refine zS ?_)
      refine ex_cond_split rfl (fun h2 => ?_) (fun h2 => ?_)
      · have hjt : j < n1 := by have := of_decide_eq_true h2; omega
        refine ex_slp (p := true) (fun _ _ h => absurd h (by omega)) (fun b1 cap1 slack1 hs1 hz2 => ?_)
        simp only [Value.slice.injEq, true_and] at hs1
        obtain ⟨rfl, rfl⟩ := hs1
        have hg2 : (List.replicate n1 (errV i) ++ slack1)[j]? = some (errV i) := by rw [List.getElem?_append_left (by simpa using hjt)]; simp [hjt]
        repeat (first|refine zR ?_|refine zS ?_|refine yB ?_|refine yC ?_)
        refine rg_indexSl rfl rfl ⟨by omega, by omega⟩ ?_
        rw [Int.toNat_natCast, Nat.zero_add (j * 1), Nat.mul_one]
        refine rg_load rfl ?_ hg2
        repeat (first|refine zA rfl ?_|refine zB rfl rfl rfl ?_|refine zG rfl ?_|refine zQ ?_|refine zR ?_|refine zS ?_)
        rw [show IntKind.wrap .i64 (1000 + (i : Int)) = 1000 + i from wIn (by omega) (by omega)]
        refine ex_cond_split rfl (fun h3 => absurd h3 (by simp)) (fun _ => ?_)
        repeat (first|refine zA rfl ?_|refine zB rfl rfl rfl ?_|refine zQ ?_|refine zS ?_|refine yB ?_|refine yD ?_)
        refine Ex.ent (EntR.e (slp_fold b1 c slack1 hz2)) ?_
        refine ex_inLoop ?_
        rw [rwrap (x := (j : Int) + 1) (by omega)]
        exact Ex.sup (IH2 (j + 1) hjt (by omega)) ⟨rfl, rfl, rfl, rfl, rfl, rfl, rfl, rfl, trivial⟩
      · repeat (first|refine yD ?_|refine yE rfl ?_)
        refine Ex.ent (marks_put hu) ?_
        (refine Ex.front 1 ?_)
        refine Ex.ent (EntR.e (slp_fold b0 sc2 slack hz)) ?_
        repeat (first|refine zA rfl ?_|refine zB rfl rfl rfl ?_|refine zQ ?_|refine zS ?_)
        refine ex_inLoop ?_
        rw [rwrap (x := (i : Int) + 1) (by omega)]
        exact Ex.sup (IH (i + 1) hlt (by omega)) ⟨rfl, rfl, rfl, rfl, trivial⟩
    · have hge : i = vs.length := by have := of_decide_eq_false h1; omega
      repeat (first|refine zG rfl ?_|refine zQ ?_|refine zR ?_|refine zS ?_|refine yE rfl ?_)
      (refine Ex.front 1 ?_; refine Ex.front 4 ?_; refine Ex.front 2 ?_; refine Ex.front 4 ?_; refine Ex.front 4 ?_)
      exact ex_rete ret Try.func40 rfl (Ent.refl _) ⟨rfl, Ent.refl _⟩
end Go.Br

namespace Go.Br
open Go Go.Lx Go.Proofs
open Go.Lx renaming rg_move → zA, rg_int → zB, rg_nilCheck → zC, rg_fieldAddr0 → zD, rg_fieldAddr → zE, rg_load → zF, rg_assign → zG, rg_loadAgg → zH, rg_extract → zI, rg_not → zJ, rg_pick → zK, rg_off → zL, rg_offU → zM, rg_store → zN, rg_storeAgg → zO, rg_convInt → zP, rg_done → zQ, ex_seq → zR, rg_start_s → zS, rg_start_d → zT, ex_cond_true → zU, ex_cond_false → zV, rg_alloc → zW, rg_boxAgg → zX, rg_build → zY, rg_lenSl → zZ, rg_lenMap → yA, ex_skip → yB, ex_block → yC, ex_inBlock → yD, ex_exit → yE, rg_caseG → yZ
set_option maxRecDepth 100000

/-! the document's steps, one behind the other -/

structure J0 (S : Bg) (xs : List Stp) (T : Bg) (i : Nat) (rest : List Stp) : Prop where
  s1 : T.s1 = S.s1
  cs : (rCodes S.s1 S.s0 xs).drop i = rCodes S.s1 T.s0 rest
  en : rEnd S.s1 T.s0 rest = rEnd S.s1 S.s0 xs
  tk : T.tk + zeros (rCodes S.s1 T.s0 rest) = S.tk + zeros (rCodes S.s1 S.s0 xs)

structure J1 (S : Bg) (xs ys : List Stp) (T : Bg) (i : Nat) (rest : List Stp) : Prop where
  s0 : T.s0 = rEnd S.s1 S.s0 xs
  kn : T.s1.known < S.s0.heads.length
  cs : (rCodes S.s0 S.s1 ys).drop i = rCodes S.s0 T.s1 rest
  en : rEnd S.s0 T.s1 rest = rEnd S.s0 S.s1 ys
  tk : T.tk + zeros (rCodes S.s0 T.s1 rest) = S.tk + zeros (rCodes S.s1 S.s0 xs) + zeros (rCodes S.s0 S.s1 ys)

theorem drop_cons {α : Type} {l r : List α} {i : Nat} {a : α} (h : l.drop i = a :: r) : l[i]? = some a ∧ l.drop (i + 1) = r := by
  have h1 : (l.drop i)[0]? = some a := by rw [h]; rfl
  rw [List.getElem?_drop] at h1
  refine ⟨h1, ?_⟩
  rw [← List.drop_drop, h]; rfl

theorem J0.step {S T : Bg} {xs rest : List Stp} {i : Nat} {x : Stp} (j : J0 S xs T i (x :: rest)) : (rCodes S.s1 S.s0 xs)[i]? = some (bgStep T 0 x S.s1.heads.length).2.2 ∧ J0 S xs (bgStep T 0 x S.s1.heads.length).1 (i + 1) rest := by
  obtain ⟨h1, h2, h3, h4⟩ := j
  have e : bgStep T 0 x S.s1.heads.length = ({ T with s0 := (Go.Br.step T.s0 x (knOf T.s0 S.s1) S.s1.heads.length).1, tk := if (Go.Br.step T.s0 x (knOf T.s0 S.s1) S.s1.heads.length).2.2 = 0 then T.tk + 1 else T.tk }, (Go.Br.step T.s0 x (knOf T.s0 S.s1) S.s1.heads.length).2.1, (Go.Br.step T.s0 x (knOf T.s0 S.s1) S.s1.heads.length).2.2) := by
    unfold bgStep
    rw [if_pos rfl, h1]
  rw [e]
  obtain ⟨a, b⟩ := drop_cons (a := (Go.Br.step T.s0 x (knOf T.s0 S.s1) S.s1.heads.length).2.2) (r := rCodes S.s1 (Go.Br.step T.s0 x (knOf T.s0 S.s1) S.s1.heads.length).1 rest) h2
  refine ⟨a, h1, b, h3, ?_⟩
  rw [← h4]
  have hz : zeros (rCodes S.s1 T.s0 (x :: rest)) = if (Go.Br.step T.s0 x (knOf T.s0 S.s1) S.s1.heads.length).2.2 = 0 then zeros (rCodes S.s1 (Go.Br.step T.s0 x (knOf T.s0 S.s1) S.s1.heads.length).1 rest) + 1 else zeros (rCodes S.s1 (Go.Br.step T.s0 x (knOf T.s0 S.s1) S.s1.heads.length).1 rest) := rfl
  rw [hz]
  dsimp only
  by_cases hc : (Go.Br.step T.s0 x (knOf T.s0 S.s1) S.s1.heads.length).2.2 = 0
  · rw [if_pos hc, if_pos hc]; push_cast; omega
  · rw [if_neg hc, if_neg hc]

theorem J1.step {S T : Bg} {xs ys rest : List Stp} {i : Nat} {x : Stp} {l : List Hd} (hl : (rEnd S.s1 S.s0 xs).heads = S.s0.heads ++ l) (j : J1 S xs ys T i (x :: rest)) :
    (rCodes S.s0 S.s1 ys)[i]? = some (bgStep T 1 x S.s0.heads.length).2.2 ∧ J1 S xs ys (bgStep T 1 x S.s0.heads.length).1 (i + 1) rest := by
  obtain ⟨h1, hk, h2, h3, h4⟩ := j
  have e : bgStep T 1 x S.s0.heads.length = ({ T with s1 := (Go.Br.step T.s1 x (knOf T.s1 S.s0) S.s0.heads.length).1, tk := if (Go.Br.step T.s1 x (knOf T.s1 S.s0) S.s0.heads.length).2.2 = 0 then T.tk + 1 else T.tk }, (Go.Br.step T.s1 x (knOf T.s1 S.s0) S.s0.heads.length).2.1, (Go.Br.step T.s1 x (knOf T.s1 S.s0) S.s0.heads.length).2.2) := by
    unfold bgStep
    rw [if_neg (by decide), if_pos rfl, h1, knOf_ext hk hl]
  rw [e]
  obtain ⟨a, b⟩ := drop_cons (a := (Go.Br.step T.s1 x (knOf T.s1 S.s0) S.s0.heads.length).2.2) (r := rCodes S.s0 (Go.Br.step T.s1 x (knOf T.s1 S.s0) S.s0.heads.length).1 rest) h2
  refine ⟨a, h1, known_keeps hk x _, b, h3, ?_⟩
  rw [← h4]
  have hz : zeros (rCodes S.s0 T.s1 (x :: rest)) = if (Go.Br.step T.s1 x (knOf T.s1 S.s0) S.s0.heads.length).2.2 = 0 then zeros (rCodes S.s0 (Go.Br.step T.s1 x (knOf T.s1 S.s0) S.s0.heads.length).1 rest) + 1 else zeros (rCodes S.s0 (Go.Br.step T.s1 x (knOf T.s1 S.s0) S.s0.heads.length).1 rest) := rfl
  rw [hz]
  dsimp only
  by_cases hc : (Go.Br.step T.s1 x (knOf T.s1 S.s0) S.s0.heads.length).2.2 = 0
  · rw [if_pos hc, if_pos hc]; push_cast; omega
  · rw [if_neg hc, if_neg hc]

theorem J0.init (S : Bg) (xs : List Stp) : J0 S xs S 0 xs := ⟨rfl, rfl, rfl, rfl⟩
theorem J0.fin {S T : Bg} {xs : List Stp} {i : Nat} (ys : List Stp) (k1 : S.s1.known < S.s0.heads.length) (j : J0 S xs T i []) : J1 S xs ys T 0 ys := by
  obtain ⟨h1, _, h3, h4⟩ := j
  refine ⟨h3, by rw [h1]; exact k1, by rw [h1]; rfl, by rw [h1], ?_⟩
  rw [h1, ← h4]
  show _ = T.tk + ((0 : Nat) : Int) + _
  simp
theorem J1.fin {S T : Bg} {xs ys : List Stp} {i : Nat} (j : J1 S xs ys T i []) : T = bgRun S xs ys := by
  obtain ⟨h1, _, _, h3, h4⟩ := j
  obtain ⟨t0, t1, tk⟩ := T
  have h3 : t1 = _ := h3
  have h4 : tk + ((0 : Nat) : Int) = _ := h4
  unfold bgRun
  rw [← h4, ← h3]
  simp only [Bg.mk.injEq]
  exact ⟨h1, trivial, by simp⟩

set_option maxHeartbeats 16000000 in
theorem runLaw_ok {X : Tgt} (hX : Co Try.prog X) (w x m : Nat) (kind oa oc on' od : Int) (os : Stp) (bs lv ev : Value) (lx : List Value) (nl : Nat) (S : Bg) (va vb : Option Addr) (ca cb : Nat) (xs ys : List Stp) (B : Nat) (Γ : List Ch) (ok : BgOk B S) (hhas : BgHas S) (hB : B + xs.length + ys.length < 10000000) (hnl : nl < 10000000)
    (hx : ∀ x ∈ xs, 0 ≤ x.n ∧ x.n < 18446744073709551616) (hy : ∀ x ∈ ys, 0 ≤ x.n ∧ x.n < 18446744073709551616) :
    CallsA Try.prog X 57 #[ptrV w, .agg ⟨[ptrV x, ptrV m]⟩, .agg ⟨[.int .i64 kind, .int .i64 oa, .int .i64 oc, .int .i64 os.kind, .int .u64 os.n, .int .u64 os.p.seq, .int .i64 os.p.frm, .int .i64 os.p.to, .int .i64 os.p.coin, .int .u64 os.p.amount, .int .u64 os.p.height, .int .u64 os.p.time, .slice va xs.length ca, .slice vb ys.length cb, .int .u64 on', .int .i64 od]⟩]
      (.pr (BgAt x S) :: .pr (ModAt m S) :: wdC w bs lv ev false :: .pr (SlV 23 1 ev lx nl) :: .pr (StepsAt (.slice va xs.length ca) xs) :: .pr (StepsAt (.slice vb ys.length cb) ys) :: Γ)
      (fun v Δ => ∃ ev' l1 l2, v = .bool true ∧ BgOk (B + xs.length + ys.length) (bgRun S xs ys) ∧ BgHas (bgRun S xs ys) ∧ Ent Δ (.pr (BgAt x (bgRun S xs ys)) :: .pr (ModAt m (bgRun S xs ys)) :: wdC w bs lv ev' false :: .pr (SlV 23 1 ev' (lx ++ [l1] ++ [l2]) (nl + 1 + 1)) ::
        .pr (SlV 22 1 l1 (List.replicate (xs.length + 2) (errV nl)) (xs.length + 2)) :: .pr (SlV 22 1 l2 (List.replicate (ys.length + 2) (errV (nl + 1))) (ys.length + 2)) :: Γ)) := by
  have g0 := heads_len ok.ok0 (by omega)
  have g1 := heads_len ok.ok1 (by omega)
  have n0 := rCodes_len S.s1 xs S.s0
  have n1 := rCodes_len S.s0 ys S.s1
  obtain ⟨_, _, ⟨lh, hlh⟩, _⟩ := rEnd_facts g1 xs S.s0 ok.ok0 ok.k0 (by omega) (fun x h => (hx x h).1)
  refine CallsA.ent (front_ent 1) (CallsA.open_ mod_open fun z _ => ?_)
  obtain ⟨c0, c1⟩ := z
  dsimp only
  refine CallsA.ent (front_ent 1) (CallsA.open_ ref_open fun y0 ok0 => ?_)
  obtain ⟨pv0, av0, hv0, zs0⟩ := y0
  dsimp only [refL]
  refine CallsA.ent (front_ent 3) (CallsA.open_ (slp_shapeO (p := true)) fun q hq => ?_)
  obtain ⟨ra0, rc0⟩ := q
  dsimp only at hq
  subst hq
  refine CallsA.ent (front_ent 6) (CallsA.open_ ref_open fun y1 ok1 => ?_)
  obtain ⟨pv1, av1, hv1, zs1⟩ := y1
  dsimp only [refL]
  refine CallsA.ent (front_ent 3) (CallsA.open_ (slp_shapeO (p := true)) fun q hq => ?_)
  obtain ⟨ra1, rc1⟩ := q
  dsimp only at hq
  subst hq
  have e0 : zs0.length = S.s0.heads.length := by rw [← ok0.heads, List.length_map]
  have e1 : zs1.length = S.s1.heads.length := by rw [← ok1.heads, List.length_map]
  refine calls_of_bodyA (args := [ptrV w, .agg ⟨[ptrV x, ptrV m]⟩, .agg ⟨[.int .i64 kind, .int .i64 oa, .int .i64 oc, .int .i64 os.kind, .int .u64 os.n, .int .u64 os.p.seq, .int .i64 os.p.frm, .int .i64 os.p.to, .int .i64 os.p.coin, .int .u64 os.p.amount, .int .u64 os.p.height, .int .u64 os.p.time, .slice va xs.length ca, .slice vb ys.length cb, .int .u64 on', .int .i64 od]⟩]) Try.func57 rfl Try.ntmps57 fun cs ret => ?_
  refine ex_seq (rg_start_s (rg_boxAgg rfl fun b4 => rg_boxAgg rfl fun b5 => ?_))
  repeat (first|refine zC rfl ?_|refine zD rfl ?_|refine zE rfl ?_|refine zF rfl ?_|refine zG rfl ?_|refine zQ ?_|refine zR ?_|refine zT (by decide+kernel) (by decide+kernel) ?_)
  refine rg_indexArrN 1 rfl rfl (by decide) rfl ?_
  repeat (first|refine zC rfl ?_|refine zD rfl ?_|refine zE rfl ?_|refine zF rfl ?_|refine zZ rfl ?_)
  refine rg_indexArrN 0 rfl rfl (by decide) rfl ?_
  repeat (first|refine zC rfl ?_|refine zE rfl ?_|refine zF rfl ?_|refine zZ rfl ?_)
  refine rg_buildSlice (vs := [.int .i64 zs1.length, .int .i64 zs0.length]) (l := [.int .i64 zs1.length, .int .i64 zs0.length]) rfl rfl rfl rfl (fun hb => ?_)
  repeat (first|refine zG rfl ?_|refine zQ ?_|refine zR ?_)
  refine Ex.sup (E' := [(7, .slice (some ⟨hb, 0, none⟩) 2 2), (5, ptrV b5), (4, ptrV b4), (0, ptrV w)]) ?_ ⟨rfl, rfl, rfl, rfl, trivial⟩
  (refine Ex.front 18 ?_; refine Ex.front 18 ?_; refine Ex.front 18 ?_; refine Ex.front 18 ?_; refine Ex.front 18 ?_; refine Ex.front 7 ?_; refine Ex.front 7 ?_; refine Ex.front 7 ?_; refine Ex.front 12 ?_; refine Ex.front 9 ?_; refine Ex.front 12 ?_; refine Ex.front 12 ?_; refine Ex.front 12 ?_; refine Ex.front 18 ?_; refine Ex.front 18 ?_; refine Ex.front 15 ?_; refine Ex.front 18 ?_; refine Ex.front 18 ?_; refine Ex.front 18 ?_)
  refine Ex.ent (ref_fold ⟨pv0, av0, .slice ra0 zs0.length rc0, zs0⟩ ok0) ?_
  (refine Ex.front 0 ?_; refine Ex.front 1 ?_)
  refine Ex.ent (EntR.e (mod_fold1 c0 c1 ⟨pv1, av1, .slice ra1 zs1.length rc1, zs1⟩ ok1)) ?_
  rw [e0, e1]
  (refine Ex.front 6 ?_; refine Ex.front 6 ?_; refine Ex.front 6 ?_; refine Ex.front 6 ?_; refine Ex.front 6 ?_; refine Ex.front 6 ?_; refine Ex.front 6 ?_; refine Ex.front 8 ?_; refine Ex.front 8 ?_)
  refine Ex.ent (Ent.dup (pers_stepsAt _ _)) ?_
  (refine Ex.front 1 ?_; refine Ex.front 1 ?_; refine Ex.front 2 ?_)
  refine Ex.ent (Ent.dup (pers_stepsAt _ _)) ?_
  (refine Ex.front 10 ?_; refine Ex.front 10 ?_; refine Ex.front 9 ?_; refine Ex.front 9 ?_; refine Ex.front 9 ?_; refine Ex.front 9 ?_; refine Ex.front 7 ?_; refine Ex.front 9 ?_; refine Ex.front 8 ?_; refine Ex.front 9 ?_; refine Ex.front 10 ?_)
  repeat (first|refine zD rfl ?_|refine zE rfl ?_|refine zF rfl ?_|refine zS ?_)
  refine rg_callA rfl (Run_bg hX x S va vb ca cb xs ys B _ ok (by omega) (by omega) hx hy) ?_
  rintro _ D ⟨ra, rb, rfl, hE⟩
  refine ⟨.inl rfl, Rg.ent hE ?_⟩
  repeat (first|refine zA rfl ?_|refine zG rfl ?_|refine zI rfl rfl ?_|refine zQ ?_|refine zR ?_)
  (refine Ex.front 1 ?_)
  refine Ex.open_ (slp_shapeO (p := true)) fun z hz => ?_
  obtain ⟨aa, ac⟩ := z
  dsimp only at hz
  subst hz
  (refine Ex.front 2 ?_)
  refine Ex.open_ (slp_shapeO (p := true)) fun z hz => ?_
  obtain ⟨ab, ad⟩ := z
  dsimp only at hz
  subst hz
  rw [n0, n1]
  repeat (first|refine zA rfl ?_|refine zB rfl rfl rfl ?_|refine zE rfl ?_|refine zF rfl ?_|refine zS ?_|refine zZ rfl ?_)
  simp only [eq_self, decide_true]
  repeat (first|refine zA rfl ?_|refine zB rfl rfl rfl ?_|refine zE rfl ?_|refine zF rfl ?_|refine zG rfl ?_|refine zK rfl rfl ?_|refine zQ ?_|refine zR ?_|refine zS ?_|refine zZ rfl ?_|refine yC ?_)
  simp only [eq_self, decide_true]
  skip
  (refine Ex.front 10 ?_; refine Ex.front 10 ?_; refine Ex.front 4 ?_; refine Ex.front 6 ?_; refine Ex.front 4 ?_; refine Ex.front 10 ?_; refine Ex.front 10 ?_; refine Ex.front 10 ?_; refine Ex.front 9 ?_; refine Ex.front 9 ?_; refine Ex.front 10 ?_)
  refine Ex.sup (E' := [(67, .int .i64 0), (66, .int .i64 xs.length), (65, .slice va xs.length ca), (10, .bool true), (7, .slice (some ⟨hb, 0, none⟩) 2 2), (9, .slice ab ys.length ad), (8, .slice aa xs.length ac), (5, ptrV b5), (4, ptrV b4), (0, ptrV w)]) ?_ ⟨rfl, rfl, rfl, rfl, rfl, rfl, rfl, rfl, rfl, rfl, trivial⟩
  refine ex_loop ?_
  refine ex_ind (ι := List Stp × List Stp × Bg) (fun i => i.2.1.length)
    (fun i => [(67, .int .i64 i.1.length), (66, .int .i64 xs.length), (65, .slice va xs.length ca), (10, .bool true), (7, .slice (some ⟨hb, 0, none⟩) 2 2), (9, .slice ab ys.length ad), (8, .slice aa xs.length ac), (5, ptrV b5), (4, ptrV b4), (0, ptrV w)])
    (fun i => .pr (ModAt m i.2.2) :: .pr (SlV 22 1 (.slice aa xs.length ac) ((rCodes S.s1 S.s0 xs).map eV) xs.length) :: .pr (StepsAt (.slice va xs.length ca) xs) ::
      .pt hb true (.cells ⟨[.int .i64 S.s1.heads.length, .int .i64 S.s0.heads.length]⟩ 3 (0, 0)) :: .pt b5 true (.cells ⟨[.int .i64 kind, .int .i64 oa, .int .i64 oc, .int .i64 os.kind, .int .u64 os.n, .int .u64 os.p.seq, .int .i64 os.p.frm, .int .i64 os.p.to, .int .i64 os.p.coin, .int .u64 os.p.amount, .int .u64 os.p.height, .int .u64 os.p.time, .slice va xs.length ca, .slice vb ys.length cb, .int .u64 on', .int .i64 od]⟩ 83 (0, 0)) ::
      .pt b4 true (.cells ⟨[ptrV x, ptrV m]⟩ 124 (0, 0)) :: .pr (SlV 22 1 (.slice ab ys.length ad) ((rCodes S.s0 S.s1 ys).map eV) ys.length) :: .pr (StepsAt (.slice vb ys.length cb) ys) :: .pr (BgAt x (bgRun S xs ys)) :: wdC w bs lv ev false :: .pr (SlV 23 1 ev lx nl) :: Γ)
    (fun i => xs = i.1 ++ i.2.1 ∧ J0 S xs i.2.2 i.1.length i.2.1 ∧ BgOk (B + i.1.length) i.2.2 ∧ BgHas i.2.2) ([], xs, S) ⟨rfl, J0.init S xs, ok, hhas⟩ ⟨rfl, rfl, rfl, rfl, rfl, rfl, rfl, rfl, rfl, rfl, trivial⟩ rfl ?_
  rintro ⟨pre, rest, T⟩ ⟨hpre, j, hok, hh⟩ IH
  dsimp only at hpre j hok hh IH ⊢
  repeat (first|refine zB rfl rfl rfl ?_|refine zQ ?_|refine zR ?_|refine zS ?_)
  rcases rest with _ | ⟨y0, rest⟩
  rotate_left
  · have hlen : xs.length = pre.length + (rest.length + 1) := by rw [hpre]; simp
    have hxi : xs[pre.length]? = some y0 := by rw [hpre]; simp
    have hxb := hx y0 (List.mem_of_getElem? hxi)
    have hnh : S.s1.heads.length ≤ (if (0 : Int) = 0 then T.s1.heads.length else T.s0.heads.length) := by rw [if_pos rfl, j.s1]; exact Nat.le_refl _
    obtain ⟨hc, j'⟩ := j.step
    have q1 := bgStep_keeps hok (by omega) 0 y0 hxb.1 S.s1.heads.length hnh
    have q2 := bgStep_has hok hh 0 y0 S.s1.heads.length
    (refine Ex.front 2 ?_)
    refine Ex.open_ (steps_open hxi) fun y hy => ?_
    obtain ⟨rfl, hyy⟩ := hy
    haveI := hyy _ _ hxi
    (refine Ex.front 2 ?_)
    refine ex_slp (p := true) (fun _ _ h => absurd h (by omega)) (fun bz cap slack hs hz => ?_)
    simp only [Value.slice.injEq, true_and] at hs
    obtain ⟨rfl, rfl⟩ := hs
    have hg : ((rCodes S.s1 S.s0 xs).map eV ++ slack)[pre.length]? = some (eV (bgStep T 0 y0 S.s1.heads.length).2.2) := by rw [List.getElem?_append_left (by rw [List.length_map]; omega), List.getElem?_map, hc]; rfl
    refine ex_cond_split rfl (fun h1 => ?_) (fun h1 => absurd (of_decide_eq_false h1) (by omega))
    repeat (first|refine zA rfl ?_|refine zR ?_|refine zS ?_|refine yB ?_|refine yC ?_)
    refine rg_indexSl rfl rfl ⟨by omega, by omega⟩ ?_
    rw [Int.toNat_natCast]
    repeat (first|refine zA rfl ?_|refine zE rfl ?_|refine zF rfl ?_|refine zG rfl ?_|refine zH rfl ?_|refine zO rfl rfl ?_|refine zQ ?_|refine zR ?_|refine zT (by decide+kernel) (by decide+kernel) ?_|refine zW fun bl=>?_)
    refine rg_indexSl rfl rfl ⟨by decide, by decide⟩ ?_
    repeat refine zF rfl ?_
    (refine Rg.front 2 ?_; refine Rg.front 2 ?_; refine Rg.front 2 ?_; refine Rg.front 3 ?_)
    refine rg_callE rfl (RDo_bg m T 0 y0 S.s1.heads.length _ _ hok (by omega) hxb (by decide) hnh) ?_
    refine ⟨.inr (by (repeat' first | exact trivial | refine ⟨.inr ⟨_, _, _, _, Find.mem, rfl⟩, ?_⟩ | refine ⟨.inr ⟨_, _, _, _, Find.mem, inferInstance⟩, ?_⟩ | refine ⟨.inr ⟨_, Find.mem⟩, ?_⟩ | refine ⟨.inl (by decide +kernel), ?_⟩)), ?_⟩
    generalize bgStep T 0 y0 S.s1.heads.length = r at *
    repeat (first|refine zA rfl ?_|refine zG rfl ?_|refine zI rfl rfl ?_|refine zQ ?_|refine zS ?_)
    refine rg_indexSl rfl rfl ⟨by omega, by omega⟩ ?_
    rw [Int.toNat_natCast, Nat.zero_add (pre.length * 1), Nat.mul_one]
    refine rg_load rfl ?_ hg
    repeat (first|refine zA rfl ?_|refine zB rfl rfl rfl ?_|refine zG rfl ?_|refine zK rfl rfl ?_|refine zQ ?_|refine zS ?_|refine yD ?_)
    simp only [eq_self, decide_true]
    skip
    (refine Ex.front 3 ?_; refine Ex.front 1 ?_; refine Ex.front 3 ?_; refine Ex.front 3 ?_)
    refine Ex.drop (Ex.ent (EntR.e (slp_fold bz ac slack hz)) ?_)
    (refine Ex.front 0 ?_; refine Ex.front 1 ?_; refine Ex.front 2 ?_)
    refine Ex.ent (EntR.e (steps_fold (c := ca) y hyy)) ?_
    (refine Ex.front 0 ?_; refine Ex.front 2 ?_; refine Ex.front 2 ?_)
    refine ex_inLoop ?_
    rw [rwrap (x := (pre.length : Int) + 1) (by omega)]
    have IH' := IH (pre ++ [y0], rest, r.1) ⟨by rw [hpre]; simp, by simpa using j', by simpa [Nat.add_assoc] using q1, q2⟩ (by simp)
    dsimp only at IH'
    rw [show ((pre ++ [y0]).length : Int) = pre.length + 1 by simp] at IH'
    exact Ex.sup IH' ⟨rfl, rfl, rfl, rfl, rfl, rfl, rfl, rfl, rfl, rfl, trivial⟩
  have hlen0 : xs.length = pre.length := by rw [hpre]; simp
  refine ex_cond_split rfl (fun h1 => absurd (of_decide_eq_true h1) (by omega)) (fun h1 => ?_)
  repeat (first|refine zA rfl ?_|refine zE rfl ?_|refine zF rfl ?_|refine zQ ?_|refine zR ?_|refine zS ?_|refine zZ rfl ?_|refine yC ?_|refine yE rfl ?_)
  (refine Ex.front 2 ?_; refine Ex.front 2 ?_; refine Ex.front 5 ?_; refine Ex.front 5 ?_; refine Ex.front 5 ?_; refine Ex.front 7 ?_; refine Ex.front 7 ?_; refine Ex.front 7 ?_)
  refine Ex.sup (E' := [(95, .int .i64 0), (94, .int .i64 ys.length), (93, .slice vb ys.length cb), (10, .bool true), (7, .slice (some ⟨hb, 0, none⟩) 2 2), (9, .slice ab ys.length ad), (8, .slice aa xs.length ac), (5, ptrV b5), (4, ptrV b4), (0, ptrV w)]) ?_ ⟨rfl, rfl, rfl, rfl, rfl, rfl, rfl, rfl, rfl, rfl, trivial⟩
  refine ex_loop ?_
  refine ex_ind (ι := List Stp × List Stp × Bg) (fun i => i.2.1.length)
    (fun i => [(95, .int .i64 i.1.length), (94, .int .i64 ys.length), (93, .slice vb ys.length cb), (10, .bool true), (7, .slice (some ⟨hb, 0, none⟩) 2 2), (9, .slice ab ys.length ad), (8, .slice aa xs.length ac), (5, ptrV b5), (4, ptrV b4), (0, ptrV w)])
    (fun i => .pr (ModAt m i.2.2) :: .pr (SlV 22 1 (.slice ab ys.length ad) ((rCodes S.s0 S.s1 ys).map eV) ys.length) :: .pr (StepsAt (.slice vb ys.length cb) ys) ::
      .pt hb true (.cells ⟨[.int .i64 S.s1.heads.length, .int .i64 S.s0.heads.length]⟩ 3 (0, 0)) :: .pt b5 true (.cells ⟨[.int .i64 kind, .int .i64 oa, .int .i64 oc, .int .i64 os.kind, .int .u64 os.n, .int .u64 os.p.seq, .int .i64 os.p.frm, .int .i64 os.p.to, .int .i64 os.p.coin, .int .u64 os.p.amount, .int .u64 os.p.height, .int .u64 os.p.time, .slice va xs.length ca, .slice vb ys.length cb, .int .u64 on', .int .i64 od]⟩ 83 (0, 0)) ::
      .pt b4 true (.cells ⟨[ptrV x, ptrV m]⟩ 124 (0, 0)) :: .pr (SlV 22 1 (.slice aa xs.length ac) ((rCodes S.s1 S.s0 xs).map eV) xs.length) :: .pr (StepsAt (.slice va xs.length ca) xs) :: .pr (BgAt x (bgRun S xs ys)) :: wdC w bs lv ev false :: .pr (SlV 23 1 ev lx nl) :: Γ)
    (fun i => ys = i.1 ++ i.2.1 ∧ J1 S xs ys i.2.2 i.1.length i.2.1 ∧ BgOk ((B + pre.length) + i.1.length) i.2.2 ∧ BgHas i.2.2) ([], ys, T) ⟨rfl, j.fin ys ok.k1, hok, hh⟩ ⟨rfl, rfl, rfl, rfl, rfl, rfl, rfl, rfl, rfl, rfl, trivial⟩ rfl ?_
  clear IH j hh
  rintro ⟨pre2, rest, T2⟩ ⟨hpre2, j, hok2, hh⟩ IH
  dsimp only at hpre2 j hok2 hh IH ⊢
  repeat (first|refine zB rfl rfl rfl ?_|refine zQ ?_|refine zR ?_|refine zS ?_)
  rcases rest with _ | ⟨y0, rest⟩
  rotate_left
  · have hlen : ys.length = pre2.length + (rest.length + 1) := by rw [hpre2]; simp
    have hxi : ys[pre2.length]? = some y0 := by rw [hpre2]; simp
    have hxb := hy y0 (List.mem_of_getElem? hxi)
    have hnh : S.s0.heads.length ≤ (if (1 : Int) = 0 then T2.s1.heads.length else T2.s0.heads.length) := by rw [if_neg (by decide), j.s0, hlh, List.length_append]; omega
    obtain ⟨hc, j'⟩ := j.step hlh
    have q1 := bgStep_keeps hok2 (by omega) 1 y0 hxb.1 S.s0.heads.length hnh
    have q2 := bgStep_has hok2 hh 1 y0 S.s0.heads.length
    (refine Ex.front 2 ?_)
    refine Ex.open_ (steps_open hxi) fun y hy => ?_
    obtain ⟨rfl, hyy⟩ := hy
    haveI := hyy _ _ hxi
    (refine Ex.front 2 ?_)
    refine ex_slp (p := true) (fun _ _ h => absurd h (by omega)) (fun bz cap slack hs hz => ?_)
    simp only [Value.slice.injEq, true_and] at hs
    obtain ⟨rfl, rfl⟩ := hs
    have hg : ((rCodes S.s0 S.s1 ys).map eV ++ slack)[pre2.length]? = some (eV (bgStep T2 1 y0 S.s0.heads.length).2.2) := by rw [List.getElem?_append_left (by rw [List.length_map]; omega), List.getElem?_map, hc]; rfl
    refine ex_cond_split rfl (fun h1 => ?_) (fun h1 => absurd (of_decide_eq_false h1) (by omega))
    repeat (first|refine zA rfl ?_|refine zR ?_|refine zS ?_|refine yB ?_|refine yC ?_)
    refine rg_indexSl rfl rfl ⟨by omega, by omega⟩ ?_
    rw [Int.toNat_natCast]
    repeat (first|refine zA rfl ?_|refine zE rfl ?_|refine zF rfl ?_|refine zG rfl ?_|refine zH rfl ?_|refine zO rfl rfl ?_|refine zQ ?_|refine zR ?_|refine zT (by decide+kernel) (by decide+kernel) ?_|refine zW fun bl=>?_)
    refine rg_indexSl rfl rfl ⟨by decide, by decide⟩ ?_
    repeat refine zF rfl ?_
    (refine Rg.front 2 ?_; refine Rg.front 2 ?_; refine Rg.front 2 ?_; refine Rg.front 3 ?_)
    refine rg_callE rfl (RDo_bg m T2 1 y0 S.s0.heads.length _ _ hok2 (by omega) hxb (by decide) hnh) ?_
    refine ⟨.inr (by (repeat' first | exact trivial | refine ⟨.inr ⟨_, _, _, _, Find.mem, rfl⟩, ?_⟩ | refine ⟨.inr ⟨_, _, _, _, Find.mem, inferInstance⟩, ?_⟩ | refine ⟨.inr ⟨_, Find.mem⟩, ?_⟩ | refine ⟨.inl (by decide +kernel), ?_⟩)), ?_⟩
    generalize bgStep T2 1 y0 S.s0.heads.length = r at *
    repeat (first|refine zA rfl ?_|refine zG rfl ?_|refine zI rfl rfl ?_|refine zQ ?_|refine zS ?_)
    refine rg_indexSl rfl rfl ⟨by omega, by omega⟩ ?_
    rw [Int.toNat_natCast, Nat.zero_add (pre2.length * 1), Nat.mul_one]
    refine rg_load rfl ?_ hg
    repeat (first|refine zA rfl ?_|refine zB rfl rfl rfl ?_|refine zG rfl ?_|refine zK rfl rfl ?_|refine zQ ?_|refine zS ?_|refine yD ?_)
    simp only [eq_self, decide_true]
    skip
    (refine Ex.front 3 ?_; refine Ex.front 1 ?_; refine Ex.front 3 ?_; refine Ex.front 3 ?_)
    refine Ex.drop (Ex.ent (EntR.e (slp_fold bz ad slack hz)) ?_)
    (refine Ex.front 0 ?_; refine Ex.front 1 ?_; refine Ex.front 2 ?_)
    refine Ex.ent (EntR.e (steps_fold (c := cb) y hyy)) ?_
    (refine Ex.front 0 ?_; refine Ex.front 2 ?_; refine Ex.front 2 ?_)
    refine ex_inLoop ?_
    rw [rwrap (x := (pre2.length : Int) + 1) (by omega)]
    have IH' := IH (pre2 ++ [y0], rest, r.1) ⟨by rw [hpre2]; simp, by simpa using j', by simpa [Nat.add_assoc] using q1, q2⟩ (by simp)
    dsimp only at IH'
    rw [show ((pre2 ++ [y0]).length : Int) = pre2.length + 1 by simp] at IH'
    exact Ex.sup IH' ⟨rfl, rfl, rfl, rfl, rfl, rfl, rfl, rfl, rfl, rfl, trivial⟩
  have hlen1 : ys.length = pre2.length := by rw [hpre2]; simp
  refine ex_cond_split rfl (fun h1 => absurd (of_decide_eq_true h1) (by omega)) (fun h1 => ?_)
  have hT := j.fin
  repeat (first|refine zA rfl ?_|refine zR ?_|refine zS ?_|refine yE rfl ?_)
  (refine Rg.front 8 ?_; refine Rg.front 8 ?_; refine Rg.front 7 ?_; refine Rg.front 7 ?_; refine Rg.front 7 ?_; refine Rg.front 7 ?_; refine Rg.front 7 ?_; refine Rg.front 7 ?_; refine Rg.front 8 ?_; refine Rg.front 10 ?_; refine Rg.front 10 ?_)
  refine rg_call rfl (errors_ok w bs lv ev (.slice aa xs.length ac) false _ lx xs.length nl _ (by omega) (by omega)) ?_
  rintro _ D1 ⟨ev1, l1, rfl, ho1, hE1⟩
  refine ⟨.inl rfl, Rg.ent hE1 ?_⟩
  repeat (first|refine zA rfl ?_|refine zQ ?_|refine zR ?_|refine zS ?_)
  (refine Rg.front 3 ?_; refine Rg.front 3 ?_; refine Rg.front 4 ?_; refine Rg.front 4 ?_; refine Rg.front 4 ?_)
  refine rg_call rfl (errors_ok w bs lv ev1 (.slice ab ys.length ad) false _ (lx ++ [l1]) ys.length (nl + 1) _ (by omega) (by omega)) ?_
  rintro _ D2 ⟨ev2, l2, rfl, ho2, hE2⟩
  refine ⟨.inl rfl, Rg.ent hE2 ?_⟩
  repeat (first|refine zA rfl ?_|refine zG rfl ?_|refine zQ ?_|refine zR ?_|refine zS ?_)
  (refine Ex.front 2 ?_; refine Ex.front 3 ?_; refine Ex.front 3 ?_; refine Ex.front 3 ?_; refine Ex.front 4 ?_; refine Ex.front 10 ?_; refine Ex.front 10 ?_; refine Ex.front 10 ?_; refine Ex.front 10 ?_; refine Ex.front 10 ?_; refine Ex.front 10 ?_)
  refine ex_rete ret Try.func57 rfl (Ent.drop (Ent.drop (Ent.drop (Ent.drop (Ent.drop (Ent.refl _)))))) ⟨ev2, l1, l2, rfl, ?_, ?_, ?_⟩
  · rw [← hT, hlen0, hlen1]; exact hok2
  · rw [← hT]; exact hh
  · rw [← hT]; exact Ent.refl _
end Go.Br
