/-
  Lemmas towards the law, proved without conditions of their own: KEEP: took: a step that was taken is entered.
-/
import Derived.Test.YtedaknlacigbhaaPk22
namespace Go.Br
open Go Go.Lx Go.Proofs
open Go.Lx renaming rg_move → zA, rg_int → zB, rg_nilCheck → zC, rg_fieldAddr0 → zD, rg_fieldAddr → zE, rg_load → zF, rg_assign → zG, rg_loadAgg → zH, rg_extract → zI, rg_not → zJ, rg_pick → zK, rg_off → zL, rg_offU → zM, rg_store → zN, rg_storeAgg → zO, rg_convInt → zP, rg_done → zQ, ex_seq → zR, rg_start_s → zS, rg_start_d → zT, ex_cond_true → zU, ex_cond_false → zV, rg_alloc → zW, rg_boxAgg → zX, rg_build → zY, rg_lenSl → zZ, rg_lenMap → yA, ex_skip → yB, ex_block → yC, ex_inBlock → yD, ex_exit → yE, rg_caseG → yZ
set_option maxRecDepth 100000

theorem fl_upd {f : Rec → Rec} {h : Rec → List Value} (hl : ∀ x, (h x).length = 1) (sl : List Value) : ∀ (r : List Rec) (j : Nat) (y : Rec), r[j]? = some y → SetL (r.flatMap h ++ sl) j (h (f y)) ((updR f r j).flatMap h ++ sl)
  | [], _, _, e => by simp at e
  | x :: r, 0, y, e => by
    simp at e; subst e
    exact ⟨[], h x, r.flatMap h ++ sl, by simp, rfl, by rw [hl, hl], by simp [updR]⟩
  | x :: r, j + 1, y, e => by
    obtain ⟨a, b, c, h1, h2, h3, h4⟩ := (fl_upd (f := f) hl sl r j y (by simpa using e)).eq
    refine ⟨h x ++ a, b, c, ?_, ?_, h3, ?_⟩
    · simp only [List.flatMap_cons, List.append_assoc] at h1 ⊢; rw [h1]
    · rw [List.length_append, hl, h2]; omega
    · simp only [updR, List.flatMap_cons, List.append_assoc] at h4 ⊢; rw [h4]

theorem fl_same {f : Rec → Rec} {h : Rec → List Value} (hs : ∀ x, h (f x) = h x) : ∀ (r : List Rec) (j : Nat), (updR f r j).flatMap h = r.flatMap h
  | [], _ => rfl
  | x :: r, 0 => by simp only [updR, List.flatMap_cons, hs]
  | x :: r, j + 1 => by simp only [updR, List.flatMap_cons, fl_same hs r j]

theorem updR_updR (f g : Rec → Rec) : ∀ (r : List Rec) (j : Nat), updR g (updR f r j) j = updR (fun x => g (f x)) r j
  | [], _ => rfl
  | x :: r, 0 => rfl
  | x :: r, j + 1 => by simp only [updR, updR_updR f g r j]

theorem updR_congr {f g : Rec → Rec} : ∀ {r : List Rec} {j : Nat} {y : Rec}, r[j]? = some y → f y = g y → updR f r j = updR g r j
  | [], _, _, e, _ => by simp at e
  | x :: r, 0, y, e, h => by simp at e; subst e; simp only [updR, h]
  | x :: r, j + 1, y, e, h => by simp only [updR]; rw [updR_congr (by simpa using e) h]

abbrev set1 (x : Rec) : Rec := { x with ans := 1 }
abbrev set2 (x : Rec) : Rec := { x with ans := 2 }

set_option maxHeartbeats 4000000 in
theorem took1_0 (w : Nat) (S : Bg) (r0 r1 : List Rec) (n xn : Int) (p : Pk) (Γ : List Ch) (hl : r0.length < 100000000) (hn : n = r0.length + 1) :
    CallsX Try.prog 24 #[ptrV w, .int .i64 0, stV ⟨1, xn, p⟩, .int .u64 n] (.pr (KwAt w S r0 r1) :: Γ) (fun v Δ => v = .bool true ∧ Ent Δ (.pr (KwAt w S (r0 ++ [recOf p]) r1) :: Γ)) := by
  refine CallsX.open_ kw_open fun z _ => ?_
  obtain ⟨b, v⟩ := z
  obtain ⟨sv0, sv1, av0, av1, pv0, pv1⟩ := v
  dsimp only [kwL]
  refine calls_of_body (args := [ptrV w, .int .i64 0, stV ⟨1, xn, p⟩, .int .u64 n]) Try.func24 rfl Try.ntmps24 fun X cs ret => ?_
  (refine Ex.front 1 ?_)
  refine Ex.open_ (slp_shapeO (p := true)) fun q hq => ?_
  obtain ⟨xa0, xc0⟩ := q
  dsimp only at hq
  subst hq
  (refine Ex.front 2 ?_)
  refine Ex.open_ (slp_shapeO (p := true)) fun q hq => ?_
  obtain ⟨xa1, xc1⟩ := q
  dsimp only at hq
  subst hq
  (refine Ex.front 0 ?_; refine Ex.front 1 ?_; refine Ex.front 2 ?_)
  refine ex_seq (rg_start_s (rg_boxAgg rfl fun bx => ?_))
  repeat (first|refine zA rfl ?_|refine zB rfl rfl rfl ?_|refine zC rfl ?_|refine zD rfl ?_|refine zE rfl ?_|refine zF rfl ?_|refine zG rfl ?_|refine zP rfl ?_|refine zQ ?_|refine zR ?_|refine zS ?_|refine zU rfl ?_|refine yC ?_)
  refine rg_indexArr rfl rfl (by decide) ?_
  rw [show (0 + 1 + Int.toNat 0 * 1 : Nat) = 1 from rfl]
  repeat (first|refine zB rfl rfl rfl ?_|refine zF rfl ?_|refine zP rfl ?_|refine zQ ?_|refine zZ rfl ?_)
  rw [rwrap (x := (r0.length : Int) + 1) (by omega), show IntKind.wrap .u64 ((r0.length : Int) + 1) = r0.length + 1 from wu_id (by omega), hn]
  refine ex_cond_false (by simp [Env.val, Env.get]) ?_
  repeat (first|refine zA rfl ?_|refine zC rfl ?_|refine zE rfl ?_|refine zR ?_|refine zT (by decide+kernel) (by decide+kernel) ?_|refine yB ?_)
  refine rg_indexArr rfl rfl (by decide) ?_
  rw [show (0 + 1 + Int.toNat 0 * 1 : Nat) = 1 from rfl]
  repeat (first|refine zE rfl ?_|refine zF rfl ?_|refine zH rfl ?_)
  refine rg_buildSlice (vs := [.agg ⟨pkC p⟩]) rfl rfl rfl rfl (fun b2 => ?_)
  (refine Rg.front 3 ?_)
  refine rg_append (xs := r0.flatMap rpC) (ys := pkC p) (len := r0.length) (c := 1) rfl rfl (.inr ⟨b2, 0, 1, true, pkC p, 49, (0, 0), rfl, Find.mem, inferInstance⟩) (fun v hv => pk_one (l := [p]) v (by simpa [pkFl] using hv)) (by omega) (by omega) (fun s' => .inr (by (repeat' first | exact trivial | refine ⟨.inr ⟨_, _, _, _, Find.mem, rfl⟩, ?_⟩ | refine ⟨.inr ⟨_, _, _, _, Find.mem, inferInstance⟩, ?_⟩ | refine ⟨.inr ⟨_, Find.mem⟩, ?_⟩ | refine ⟨.inl (by decide +kernel), ?_⟩))) (fun s' hs' => ?_)
  repeat (first|refine zA rfl ?_|refine zC rfl ?_|refine zE rfl ?_|refine zG rfl ?_|refine zQ ?_|refine zR ?_|refine zS ?_)
  refine rg_indexArr rfl rfl (by decide) ?_
  rw [show (0 + 3 + Int.toNat 0 * 1 : Nat) = 3 from rfl]
  repeat refine zF rfl ?_
  refine rg_buildSlice (vs := [.int .i64 0]) rfl rfl rfl rfl (fun b3 => ?_)
  (refine Rg.front 6 ?_)
  refine rg_append (xs := r0.flatMap raC) (ys := [.int .i64 0]) (len := r0.length) (c := 1) rfl rfl (.inr ⟨b3, 0, 1, true, [.int .i64 0], 3, (0, 0), rfl, Find.mem, inferInstance⟩) (fun v hv => by rw [List.mem_singleton.1 hv]; rfl) (by omega) (by omega) (fun s' => .inl rfl) (fun a' ha' => ?_)
  repeat (first|refine zA rfl ?_|refine zC rfl ?_|refine zE rfl ?_|refine zG rfl ?_|refine zQ ?_|refine zR ?_|refine zS ?_)
  refine rg_indexArr rfl rfl (by decide) ?_
  rw [show (0 + 5 + Int.toNat 0 * 1 : Nat) = 5 from rfl]
  repeat refine zF rfl ?_
  refine rg_buildSlice (vs := [.bool true]) rfl rfl rfl rfl (fun b4 => ?_)
  (refine Rg.front 9 ?_)
  refine rg_append (xs := r0.flatMap rqC) (ys := [.bool true]) (len := r0.length) (c := 1) rfl rfl (.inr ⟨b4, 0, 1, true, [.bool true], 4, (0, 0), rfl, Find.mem, inferInstance⟩) (fun v hv => by rw [List.mem_singleton.1 hv]; rfl) (by omega) (by omega) (fun s' => .inl rfl) (fun p' hp' => ?_)
  repeat (first|refine zA rfl ?_|refine zC rfl ?_|refine zE rfl ?_|refine zG rfl ?_|refine zQ ?_|refine zR ?_|refine zS ?_)
  refine rg_indexArr rfl rfl (by decide) ?_
  rw [show (0 + 1 + Int.toNat 0 * 1 : Nat) = 1 from rfl]
  refine rg_store rfl rfl ?_ hs'
  repeat (first|refine zA rfl ?_|refine zC rfl ?_|refine zE rfl ?_|refine zQ ?_|refine zR ?_|refine zS ?_)
  refine rg_indexArr rfl rfl (by decide) ?_
  rw [show (0 + 3 + Int.toNat 0 * 1 : Nat) = 3 from rfl]
  refine rg_store rfl rfl ?_ ha'
  repeat (first|refine zA rfl ?_|refine zC rfl ?_|refine zE rfl ?_|refine zQ ?_|refine zS ?_)
  refine rg_indexArr rfl rfl (by decide) ?_
  rw [show (0 + 5 + Int.toNat 0 * 1 : Nat) = 5 from rfl]
  refine rg_store rfl rfl ?_ hp'
  repeat (first|refine zG rfl ?_|refine zQ ?_|refine zR ?_|refine zS ?_|refine yD ?_)
  (refine Ex.front 11 ?_; refine Ex.front 11 ?_; refine Ex.front 2 ?_; refine Ex.front 11 ?_; refine Ex.front 5 ?_; refine Ex.front 11 ?_; refine Ex.front 8 ?_; refine Ex.front 11 ?_; refine Ex.front 11 ?_; refine Ex.front 11 ?_; refine Ex.front 11 ?_; refine Ex.front 11 ?_)
  refine ex_rete ret Try.func24 rfl (Ent.drop (Ent.drop (Ent.drop (Ent.drop (Ent.refl _))))) ⟨rfl, ?_⟩
  have e1 : (r0 ++ [recOf p]).flatMap rpC = r0.flatMap rpC ++ pkC p := by simp [List.flatMap_append, recOf]
  have e2 : (r0 ++ [recOf p]).flatMap raC = r0.flatMap raC ++ [.int .i64 0] := by simp [List.flatMap_append, recOf]
  have e3 : (r0 ++ [recOf p]).flatMap rqC = r0.flatMap rqC ++ [.bool true] := by simp [List.flatMap_append, recOf]
  rw [← e1, ← e2, ← e3, ← len_snoc r0 (recOf p)]
  exact EntR.e (kw_fold (b := b) (v := ⟨s', .slice xa1 r1.length xc1, a', av1, p', pv1⟩))

set_option maxHeartbeats 4000000 in
theorem took1_1 (w : Nat) (S : Bg) (r0 r1 : List Rec) (n xn : Int) (p : Pk) (Γ : List Ch) (hl : r1.length < 100000000) (hn : n = r1.length + 1) :
    CallsX Try.prog 24 #[ptrV w, .int .i64 1, stV ⟨1, xn, p⟩, .int .u64 n] (.pr (KwAt w S r0 r1) :: Γ) (fun v Δ => v = .bool true ∧ Ent Δ (.pr (KwAt w S r0 (r1 ++ [recOf p])) :: Γ)) := by
  refine CallsX.open_ kw_open fun z _ => ?_
  obtain ⟨b, v⟩ := z
  obtain ⟨sv0, sv1, av0, av1, pv0, pv1⟩ := v
  dsimp only [kwL]
  refine calls_of_body (args := [ptrV w, .int .i64 1, stV ⟨1, xn, p⟩, .int .u64 n]) Try.func24 rfl Try.ntmps24 fun X cs ret => ?_
  (refine Ex.front 1 ?_)
  refine Ex.open_ (slp_shapeO (p := true)) fun q hq => ?_
  obtain ⟨xa0, xc0⟩ := q
  dsimp only at hq
  subst hq
  (refine Ex.front 2 ?_)
  refine Ex.open_ (slp_shapeO (p := true)) fun q hq => ?_
  obtain ⟨xa1, xc1⟩ := q
  dsimp only at hq
  subst hq
  (refine Ex.front 0 ?_; refine Ex.front 1 ?_; refine Ex.front 2 ?_)
  refine ex_seq (rg_start_s (rg_boxAgg rfl fun bx => ?_))
  repeat (first|refine zA rfl ?_|refine zB rfl rfl rfl ?_|refine zC rfl ?_|refine zD rfl ?_|refine zE rfl ?_|refine zF rfl ?_|refine zG rfl ?_|refine zP rfl ?_|refine zQ ?_|refine zR ?_|refine zS ?_|refine zU rfl ?_|refine yC ?_)
  refine rg_indexArr rfl rfl (by decide) ?_
  rw [show (0 + 1 + Int.toNat 1 * 1 : Nat) = 2 from rfl]
  repeat (first|refine zB rfl rfl rfl ?_|refine zF rfl ?_|refine zP rfl ?_|refine zQ ?_|refine zZ rfl ?_)
  rw [rwrap (x := (r1.length : Int) + 1) (by omega), show IntKind.wrap .u64 ((r1.length : Int) + 1) = r1.length + 1 from wu_id (by omega), hn]
  refine ex_cond_false (by simp [Env.val, Env.get]) ?_
  repeat (first|refine zA rfl ?_|refine zC rfl ?_|refine zE rfl ?_|refine zR ?_|refine zT (by decide+kernel) (by decide+kernel) ?_|refine yB ?_)
  refine rg_indexArr rfl rfl (by decide) ?_
  rw [show (0 + 1 + Int.toNat 1 * 1 : Nat) = 2 from rfl]
  repeat (first|refine zE rfl ?_|refine zF rfl ?_|refine zH rfl ?_)
  refine rg_buildSlice (vs := [.agg ⟨pkC p⟩]) rfl rfl rfl rfl (fun b2 => ?_)
  (refine Rg.front 4 ?_)
  refine rg_append (xs := r1.flatMap rpC) (ys := pkC p) (len := r1.length) (c := 1) rfl rfl (.inr ⟨b2, 0, 1, true, pkC p, 49, (0, 0), rfl, Find.mem, inferInstance⟩) (fun v hv => pk_one (l := [p]) v (by simpa [pkFl] using hv)) (by omega) (by omega) (fun s' => .inr (by (repeat' first | exact trivial | refine ⟨.inr ⟨_, _, _, _, Find.mem, rfl⟩, ?_⟩ | refine ⟨.inr ⟨_, _, _, _, Find.mem, inferInstance⟩, ?_⟩ | refine ⟨.inr ⟨_, Find.mem⟩, ?_⟩ | refine ⟨.inl (by decide +kernel), ?_⟩))) (fun s' hs' => ?_)
  repeat (first|refine zA rfl ?_|refine zC rfl ?_|refine zE rfl ?_|refine zG rfl ?_|refine zQ ?_|refine zR ?_|refine zS ?_)
  refine rg_indexArr rfl rfl (by decide) ?_
  rw [show (0 + 3 + Int.toNat 1 * 1 : Nat) = 4 from rfl]
  repeat refine zF rfl ?_
  refine rg_buildSlice (vs := [.int .i64 0]) rfl rfl rfl rfl (fun b3 => ?_)
  (refine Rg.front 7 ?_)
  refine rg_append (xs := r1.flatMap raC) (ys := [.int .i64 0]) (len := r1.length) (c := 1) rfl rfl (.inr ⟨b3, 0, 1, true, [.int .i64 0], 3, (0, 0), rfl, Find.mem, inferInstance⟩) (fun v hv => by rw [List.mem_singleton.1 hv]; rfl) (by omega) (by omega) (fun s' => .inl rfl) (fun a' ha' => ?_)
  repeat (first|refine zA rfl ?_|refine zC rfl ?_|refine zE rfl ?_|refine zG rfl ?_|refine zQ ?_|refine zR ?_|refine zS ?_)
  refine rg_indexArr rfl rfl (by decide) ?_
  rw [show (0 + 5 + Int.toNat 1 * 1 : Nat) = 6 from rfl]
  repeat refine zF rfl ?_
  refine rg_buildSlice (vs := [.bool true]) rfl rfl rfl rfl (fun b4 => ?_)
  (refine Rg.front 10 ?_)
  refine rg_append (xs := r1.flatMap rqC) (ys := [.bool true]) (len := r1.length) (c := 1) rfl rfl (.inr ⟨b4, 0, 1, true, [.bool true], 4, (0, 0), rfl, Find.mem, inferInstance⟩) (fun v hv => by rw [List.mem_singleton.1 hv]; rfl) (by omega) (by omega) (fun s' => .inl rfl) (fun p' hp' => ?_)
  repeat (first|refine zA rfl ?_|refine zC rfl ?_|refine zE rfl ?_|refine zG rfl ?_|refine zQ ?_|refine zR ?_|refine zS ?_)
  refine rg_indexArr rfl rfl (by decide) ?_
  rw [show (0 + 1 + Int.toNat 1 * 1 : Nat) = 2 from rfl]
  refine rg_store rfl rfl ?_ hs'
  repeat (first|refine zA rfl ?_|refine zC rfl ?_|refine zE rfl ?_|refine zQ ?_|refine zR ?_|refine zS ?_)
  refine rg_indexArr rfl rfl (by decide) ?_
  rw [show (0 + 3 + Int.toNat 1 * 1 : Nat) = 4 from rfl]
  refine rg_store rfl rfl ?_ ha'
  repeat (first|refine zA rfl ?_|refine zC rfl ?_|refine zE rfl ?_|refine zQ ?_|refine zS ?_)
  refine rg_indexArr rfl rfl (by decide) ?_
  rw [show (0 + 5 + Int.toNat 1 * 1 : Nat) = 6 from rfl]
  refine rg_store rfl rfl ?_ hp'
  repeat (first|refine zG rfl ?_|refine zQ ?_|refine zR ?_|refine zS ?_|refine yD ?_)
  (refine Ex.front 11 ?_; refine Ex.front 1 ?_; refine Ex.front 11 ?_; refine Ex.front 4 ?_; refine Ex.front 11 ?_; refine Ex.front 7 ?_; refine Ex.front 11 ?_; refine Ex.front 11 ?_; refine Ex.front 11 ?_; refine Ex.front 11 ?_; refine Ex.front 11 ?_; refine Ex.front 11 ?_)
  refine ex_rete ret Try.func24 rfl (Ent.drop (Ent.drop (Ent.drop (Ent.drop (Ent.refl _))))) ⟨rfl, ?_⟩
  have e1 : (r1 ++ [recOf p]).flatMap rpC = r1.flatMap rpC ++ pkC p := by simp [List.flatMap_append, recOf]
  have e2 : (r1 ++ [recOf p]).flatMap raC = r1.flatMap raC ++ [.int .i64 0] := by simp [List.flatMap_append, recOf]
  have e3 : (r1 ++ [recOf p]).flatMap rqC = r1.flatMap rqC ++ [.bool true] := by simp [List.flatMap_append, recOf]
  rw [← e1, ← e2, ← e3, ← len_snoc r1 (recOf p)]
  exact EntR.e (kw_fold (b := b) (v := ⟨.slice xa0 r0.length xc0, s', av0, a', pv0, p'⟩))

set_option maxHeartbeats 4000000 in
theorem took4_0 (w : Nat) (S : Bg) (r0 r1 : List Rec) (n : Int) (p : Pk) (Γ : List Ch) (j : Nat) (y : Rec) (hjj : r1[j]? = some y) (hl : r1.length < 100000000) (hp : y.pend = true) (ha : y.ans = 0) (hq : ∀ z, 0 < j → r1[j - 1]? = some z → z.ans ≠ 0) :
    CallsX Try.prog 24 #[ptrV w, .int .i64 0, stV ⟨4, (j : Int) + 1, p⟩, .int .u64 n] (.pr (KwAt w S r0 r1) :: Γ) (fun v Δ => v = .bool true ∧ Ent Δ (.pr (KwAt w S r0 (updR answ r1 j)) :: Γ)) := by
  have hlt : j < r1.length := lt_some hjj
  have hj : r1[j] = y := by rw [List.getElem?_eq_getElem hlt] at hjj; exact Option.some.inj hjj
  refine CallsX.open_ kw_open fun z _ => ?_
  obtain ⟨b, v⟩ := z
  obtain ⟨sv0, sv1, av0, av1, pv0, pv1⟩ := v
  dsimp only [kwL]
  refine calls_of_body (args := [ptrV w, .int .i64 0, stV ⟨4, (j : Int) + 1, p⟩, .int .u64 n]) Try.func24 rfl Try.ntmps24 fun X cs ret => ?_
  (refine Ex.front 2 ?_)
  refine ex_slp (p := true) (fun _ _ h => absurd h (by omega)) (fun bs scap sls hs hzs => ?_)
  subst hs
  (refine Ex.front 4 ?_)
  refine ex_slp (p := true) (fun _ _ h => absurd h (by omega)) (fun ba acap sla hs hza => ?_)
  subst hs
  (refine Ex.front 6 ?_)
  refine ex_slp (p := true) (fun _ _ h => absurd h (by omega)) (fun bp pcap slp hs hzp => ?_)
  subst hs
  have fin : ∀ r' : List Rec, r'.length = r1.length → r'.flatMap rpC = r1.flatMap rpC → Ent (.pt bp true (.cells ⟨r'.flatMap rqC ++ slp⟩ 4 (0, 0)) :: .pt ba true (.cells ⟨r'.flatMap raC ++ sla⟩ 3 (0, 0)) :: .pt bs true (.cells ⟨r1.flatMap rpC ++ sls⟩ 49 (0, 0)) ::
      kwC w b ⟨sv0, .slice (some ⟨bs, 0, none⟩) r1.length scap, av0, .slice (some ⟨ba, 0, none⟩) r1.length acap, pv0, .slice (some ⟨bp, 0, none⟩) r1.length pcap⟩ :: ksC sv0 r0 :: kaC' av0 r0 :: kpC' pv0 r0 :: .pr (BgAt b S) :: Γ) (.pr (KwAt w S r0 r') :: Γ) := fun r' h1 h2 => by
    refine Ent.trans (EntR.e (slp_fold (m := 1) (len := r1.length) bp pcap slp ⟨hzp.1, by rw [flat_len rqC_len, h1], hzp.2.2⟩)) ?_
    refine Ent.trans (front_ent 1) (Ent.trans (EntR.e (slp_fold (m := 1) (len := r1.length) ba acap sla ⟨hza.1, by rw [flat_len raC_len, h1], hza.2.2⟩)) ?_)
    refine Ent.trans (front_ent 2) (Ent.trans (EntR.e (slp_fold bs scap sls hzs)) ?_)
    (refine Ent.trans (front_ent 7) ?_; refine Ent.trans (front_ent 3) ?_; refine Ent.trans (front_ent 7) ?_; refine Ent.trans (front_ent 4) ?_; refine Ent.trans (front_ent 7) ?_; refine Ent.trans (front_ent 5) ?_; refine Ent.trans (front_ent 7) ?_; refine Ent.trans (front_ent 7) ?_)
    have e := kw_fold (w := w) (b := b) (v := ⟨sv0, .slice (some ⟨bs, 0, none⟩) r1.length scap, av0, .slice (some ⟨ba, 0, none⟩) r1.length acap, pv0, .slice (some ⟨bp, 0, none⟩) r1.length pcap⟩) (S := S) (Γ := Γ) (r0 := r0) (r1 := r')
    dsimp only [kwL, ksC, kaC', kpC'] at e
    rw [h1, h2] at e
    exact e
  have hva : (r1.flatMap raC ++ sla)[j]? = some (.int .i64 0) := by
    have e := fl1_get (f := raC) (g := fun x => .int .i64 x.ans) (fun _ => rfl) r1 j hlt sla
    rw [hj] at e; rw [e]; rw [ha]
  have hvp : (r1.flatMap rqC ++ slp)[j]? = some (.bool true) := by
    have e := fl1_get (f := rqC) (g := fun x => .bool x.pend) (fun _ => rfl) r1 j hlt slp
    rw [hj] at e; rw [e]; rw [hp]
  refine ex_seq (rg_start_s (rg_boxAgg rfl fun bx => ?_))
  repeat (first|refine zA rfl ?_|refine zB rfl rfl rfl ?_|refine zD rfl ?_|refine zE rfl ?_|refine zF rfl ?_|refine zG rfl ?_|refine zP rfl ?_|refine zQ ?_|refine zR ?_|refine zS ?_|refine zU rfl ?_|refine zV rfl ?_|refine yC ?_)
  rw [show IntKind.wrap .i64 (IntKind.wrap .i64 ((j : Int) + 1) - 1) = j from by rw [rwrap (x := (j : Int) + 1) (by omega), rwrap (by omega)]; omega]
  rw [show IntKind.wrap .i64 (1 - 0) = 1 from by decide]
  refine rg_caseG rfl rfl (fun g => absurd (of_decide_eq_true g) (by omega)) (fun _ => ?_)
  repeat (first|refine zA rfl ?_|refine zC rfl ?_|refine zE rfl ?_)
  refine rg_indexArr rfl rfl (by decide) ?_
  rw [show (0 + 1 + Int.toNat 1 * 1 : Nat) = 2 from rfl]
  repeat (first|refine zA rfl ?_|refine zB rfl rfl rfl ?_|refine zF rfl ?_|refine zK rfl rfl ?_|refine zZ rfl ?_)
  refine rg_caseG rfl rfl (fun g => absurd (of_decide_eq_true g) (by omega)) (fun _ => ?_)
  repeat (first|refine zA rfl ?_|refine zC rfl ?_|refine zE rfl ?_)
  refine rg_indexArr rfl rfl (by decide) ?_
  rw [show (0 + 3 + Int.toNat 1 * 1 : Nat) = 4 from rfl]
  repeat (first|refine zA rfl ?_|refine zF rfl ?_)
  refine rg_indexSl rfl rfl ⟨by omega, by omega⟩ ?_
  rw [Int.toNat_natCast, Nat.mul_one j, Nat.zero_add j]
  refine rg_load rfl ?_ hva
  repeat (first|refine zA rfl ?_|refine zB rfl rfl rfl ?_|refine zC rfl ?_|refine zE rfl ?_|refine zK rfl rfl ?_)
  refine rg_indexArr rfl rfl (by decide) ?_
  rw [show (0 + 5 + Int.toNat 1 * 1 : Nat) = 6 from rfl]
  repeat (first|refine zA rfl ?_|refine zF rfl ?_)
  refine rg_indexSl rfl rfl ⟨by omega, by omega⟩ ?_
  rw [Int.toNat_natCast, Nat.mul_one j, Nat.zero_add j]
  refine rg_load rfl ?_ hvp
  repeat (first|refine zA rfl ?_|refine zB rfl rfl rfl ?_|refine zJ rfl ?_|refine zK rfl rfl ?_)
  apply join True
  · intro J
    refine rg_caseG rfl rfl (fun g => ?_) (fun g => ?_)
    · have g := of_decide_eq_true g
      obtain ⟨z, hz⟩ : ∃ z, r1[j - 1]? = some z := ⟨_, List.getElem?_eq_getElem (by omega)⟩
      have hzl : r1[j - 1]'(by omega) = z := by rw [List.getElem?_eq_getElem (by omega)] at hz; exact Option.some.inj hz
      have hz0 := hq z (by omega) hz
      have hvq : (r1.flatMap raC ++ sla)[j - 1]? = some (.int .i64 z.ans) := by
        have e := fl1_get (f := raC) (g := fun x => .int .i64 x.ans) (fun _ => rfl) r1 (j - 1) (by omega) sla
        rw [hzl] at e; exact e
      repeat (first|refine zA rfl ?_|refine zC rfl ?_|refine zE rfl ?_)
      refine rg_indexArr rfl rfl (by decide) ?_
      rw [show (0 + 3 + Int.toNat 1 * 1 : Nat) = 4 from rfl]
      repeat (first|refine zA rfl ?_|refine zB rfl rfl rfl ?_|refine zF rfl ?_)
      rw [show IntKind.wrap .i64 ((j : Int) - 1) = ((j - 1 : Nat) : Int) from by rw [rwrap (by omega)]; omega]
      refine rg_indexSl rfl rfl ⟨by omega, by omega⟩ ?_
      rw [Int.toNat_natCast, Nat.mul_one (j - 1), Nat.zero_add (j - 1)]
      refine rg_load rfl ?_ hvq
      repeat (first|refine zB rfl rfl rfl ?_|refine zK rfl rfl ?_|refine zQ ?_)
      rw [decide_eq_false hz0]
      repeat (first|refine zR ?_|refine zV rfl ?_|refine yB ?_)
      exact Ex.sup (E' := [(13, .int .i64 1), (9, .int .i64 j), (0, ptrV w)]) (J trivial) ⟨rfl, rfl, rfl, trivial⟩
    · repeat (first|refine zK rfl rfl ?_|refine zL rfl rfl rfl rfl (by decide) trivial rfl ?_|refine zQ ?_|refine zR ?_|refine zV rfl ?_|refine yB ?_)
      exact Ex.sup (E' := [(13, .int .i64 1), (9, .int .i64 j), (0, ptrV w)]) (J trivial) ⟨rfl, rfl, rfl, trivial⟩
  intro _
  repeat (first|refine zA rfl ?_|refine zC rfl ?_|refine zE rfl ?_|refine zS ?_)
  refine rg_indexArr rfl rfl (by decide) ?_
  rw [show (0 + 3 + Int.toNat 1 * 1 : Nat) = 4 from rfl]
  repeat (first|refine zA rfl ?_|refine zF rfl ?_)
  refine rg_indexSl rfl rfl ⟨by omega, by omega⟩ ?_
  rw [Int.toNat_natCast, Nat.mul_one j, Nat.zero_add j]
  haveI := fl_upd (f := set1) (h := raC) raC_len sla r1 j y hjj
  refine rg_store rfl rfl ?_
  repeat (first|refine zA rfl ?_|refine zC rfl ?_|refine zE rfl ?_|refine zQ ?_|refine zR ?_|refine zS ?_)
  refine rg_indexArr rfl rfl (by decide) ?_
  rw [show (0 + 1 + Int.toNat 1 * 1 : Nat) = 2 from rfl]
  repeat (first|refine zA rfl ?_|refine zF rfl ?_)
  refine rg_indexSl rfl rfl ⟨by omega, by omega⟩ ?_
  rw [Int.toNat_natCast, Nat.zero_add (j * 7)]
  haveI := sliceL_flat rpC_len r1 j y hjj sls
  refine rg_loadAgg rfl ?_
  repeat (first|refine zA rfl ?_|refine zB rfl rfl rfl ?_|refine zE rfl ?_|refine zF rfl ?_|refine zO rfl rfl ?_|refine zQ ?_|refine zR ?_|refine zS ?_|refine zW fun bl=>?_)
  refine rg_caseG rfl rfl (fun g => ?_) (fun g => ?_)
  · have g := of_decide_eq_true g
    have hnu : ¬ isUser y.p.to = true := by rw [Bool.not_eq_true]; exact (isUser_eq _).2 (.inl g)
    repeat (first|refine zA rfl ?_|refine zC rfl ?_|refine zE rfl ?_|refine zK rfl rfl ?_|refine zL rfl rfl rfl rfl (by decide) trivial rfl ?_|refine zQ ?_|refine zS ?_|refine zU rfl ?_)
    refine rg_indexArr rfl rfl (by decide) ?_
    rw [show (0 + 3 + Int.toNat 1 * 1 : Nat) = 4 from rfl]
    repeat (first|refine zA rfl ?_|refine zF rfl ?_)
    refine rg_indexSl rfl rfl ⟨by omega, by omega⟩ ?_
    rw [Int.toNat_natCast, Nat.mul_one j, Nat.zero_add j]
    haveI := fl_upd (f := set2) (h := raC) raC_len sla (updR set1 r1 j) j (set1 y) (by rw [updR_get, if_pos rfl, hjj]; rfl)
    refine rg_store rfl rfl ?_
    repeat (first|refine zG rfl ?_|refine zQ ?_|refine zR ?_|refine zS ?_|refine yD ?_)
    refine ex_rete ret Try.func24 rfl (Ent.drop (Ent.drop (Ent.refl _))) ⟨rfl, ?_⟩
    rw [updR_updR]
    have e := fin (updR (fun x => set2 (set1 x)) r1 j) (updR_len _ _ _) (fl_same (f := fun x => set2 (set1 x)) (h := rpC) (fun _ => rfl) r1 j)
    rw [fl_same (f := fun x => set2 (set1 x)) (h := rqC) (fun _ => rfl) r1 j] at e
    rw [updR_congr (f := fun x => set2 (set1 x)) (g := answ) hjj (by show (⟨y.p, 2, y.pend⟩ : Rec) = ⟨y.p, if isUser y.p.to = true then 1 else 2, y.pend⟩; rw [if_neg hnu])] at e ⊢
    exact e
  · have g := of_decide_eq_false g
    repeat (first|refine zB rfl rfl rfl ?_|refine zE rfl ?_|refine zF rfl ?_|refine zK rfl rfl ?_|refine zQ ?_)
    refine ex_cond_split rfl (fun g2 => ?_) (fun g2 => ?_)
    · have g2 := of_decide_eq_true g2
      have hnu : ¬ isUser y.p.to = true := by rw [Bool.not_eq_true]; exact (isUser_eq _).2 (.inr g2)
      repeat (first|refine zA rfl ?_|refine zC rfl ?_|refine zE rfl ?_|refine zS ?_)
      refine rg_indexArr rfl rfl (by decide) ?_
      rw [show (0 + 3 + Int.toNat 1 * 1 : Nat) = 4 from rfl]
      repeat (first|refine zA rfl ?_|refine zF rfl ?_)
      refine rg_indexSl rfl rfl ⟨by omega, by omega⟩ ?_
      rw [Int.toNat_natCast, Nat.mul_one j, Nat.zero_add j]
      haveI := fl_upd (f := set2) (h := raC) raC_len sla (updR set1 r1 j) j (set1 y) (by rw [updR_get, if_pos rfl, hjj]; rfl)
      refine rg_store rfl rfl ?_
      repeat (first|refine zG rfl ?_|refine zQ ?_|refine zR ?_|refine zS ?_|refine yD ?_)
      refine ex_rete ret Try.func24 rfl (Ent.drop (Ent.drop (Ent.refl _))) ⟨rfl, ?_⟩
      rw [updR_updR]
      have e := fin (updR (fun x => set2 (set1 x)) r1 j) (updR_len _ _ _) (fl_same (f := fun x => set2 (set1 x)) (h := rpC) (fun _ => rfl) r1 j)
      rw [fl_same (f := fun x => set2 (set1 x)) (h := rqC) (fun _ => rfl) r1 j] at e
      rw [updR_congr (f := fun x => set2 (set1 x)) (g := answ) hjj (by show (⟨y.p, 2, y.pend⟩ : Rec) = ⟨y.p, if isUser y.p.to = true then 1 else 2, y.pend⟩; rw [if_neg hnu])] at e ⊢
      exact e
    · have g2 := of_decide_eq_false g2
      have hu : isUser y.p.to = true := by
        cases e : isUser y.p.to with
        | true => rfl
        | false => rcases (isUser_eq _).1 e with h | h <;> omega
      repeat (first|refine zG rfl ?_|refine zQ ?_|refine zR ?_|refine zS ?_|refine yB ?_|refine yD ?_)
      refine ex_rete ret Try.func24 rfl (Ent.drop (Ent.drop (Ent.refl _))) ⟨rfl, ?_⟩
      have e := fin (updR set1 r1 j) (updR_len _ _ _) (fl_same (f := set1) (h := rpC) (fun _ => rfl) r1 j)
      rw [fl_same (f := set1) (h := rqC) (fun _ => rfl) r1 j] at e
      rw [updR_congr (f := set1) (g := answ) hjj (by show (⟨y.p, 1, y.pend⟩ : Rec) = ⟨y.p, if isUser y.p.to = true then 1 else 2, y.pend⟩; rw [if_pos hu])] at e ⊢
      exact e

set_option maxHeartbeats 4000000 in
theorem took4_1 (w : Nat) (S : Bg) (r0 r1 : List Rec) (n : Int) (p : Pk) (Γ : List Ch) (j : Nat) (y : Rec) (hjj : r0[j]? = some y) (hl : r0.length < 100000000) (hp : y.pend = true) (ha : y.ans = 0) (hq : ∀ z, 0 < j → r0[j - 1]? = some z → z.ans ≠ 0) :
    CallsX Try.prog 24 #[ptrV w, .int .i64 1, stV ⟨4, (j : Int) + 1, p⟩, .int .u64 n] (.pr (KwAt w S r0 r1) :: Γ) (fun v Δ => v = .bool true ∧ Ent Δ (.pr (KwAt w S (updR answ r0 j) r1) :: Γ)) := by
  have hlt : j < r0.length := lt_some hjj
  have hj : r0[j] = y := by rw [List.getElem?_eq_getElem hlt] at hjj; exact Option.some.inj hjj
  refine CallsX.open_ kw_open fun z _ => ?_
  obtain ⟨b, v⟩ := z
  obtain ⟨sv0, sv1, av0, av1, pv0, pv1⟩ := v
  dsimp only [kwL]
  refine calls_of_body (args := [ptrV w, .int .i64 1, stV ⟨4, (j : Int) + 1, p⟩, .int .u64 n]) Try.func24 rfl Try.ntmps24 fun X cs ret => ?_
  (refine Ex.front 1 ?_)
  refine ex_slp (p := true) (fun _ _ h => absurd h (by omega)) (fun bs scap sls hs hzs => ?_)
  subst hs
  (refine Ex.front 3 ?_)
  refine ex_slp (p := true) (fun _ _ h => absurd h (by omega)) (fun ba acap sla hs hza => ?_)
  subst hs
  (refine Ex.front 5 ?_)
  refine ex_slp (p := true) (fun _ _ h => absurd h (by omega)) (fun bp pcap slp hs hzp => ?_)
  subst hs
  have fin : ∀ r' : List Rec, r'.length = r0.length → r'.flatMap rpC = r0.flatMap rpC → Ent (.pt bp true (.cells ⟨r'.flatMap rqC ++ slp⟩ 4 (0, 0)) :: .pt ba true (.cells ⟨r'.flatMap raC ++ sla⟩ 3 (0, 0)) :: .pt bs true (.cells ⟨r0.flatMap rpC ++ sls⟩ 49 (0, 0)) ::
      kwC w b ⟨.slice (some ⟨bs, 0, none⟩) r0.length scap, sv1, .slice (some ⟨ba, 0, none⟩) r0.length acap, av1, .slice (some ⟨bp, 0, none⟩) r0.length pcap, pv1⟩ :: ksC sv1 r1 :: kaC' av1 r1 :: kpC' pv1 r1 :: .pr (BgAt b S) :: Γ) (.pr (KwAt w S r' r1) :: Γ) := fun r' h1 h2 => by
    refine Ent.trans (EntR.e (slp_fold (m := 1) (len := r0.length) bp pcap slp ⟨hzp.1, by rw [flat_len rqC_len, h1], hzp.2.2⟩)) ?_
    refine Ent.trans (front_ent 1) (Ent.trans (EntR.e (slp_fold (m := 1) (len := r0.length) ba acap sla ⟨hza.1, by rw [flat_len raC_len, h1], hza.2.2⟩)) ?_)
    refine Ent.trans (front_ent 2) (Ent.trans (EntR.e (slp_fold bs scap sls hzs)) ?_)
    (refine Ent.trans (front_ent 7) ?_; refine Ent.trans (front_ent 7) ?_; refine Ent.trans (front_ent 4) ?_; refine Ent.trans (front_ent 7) ?_; refine Ent.trans (front_ent 5) ?_; refine Ent.trans (front_ent 7) ?_; refine Ent.trans (front_ent 6) ?_; refine Ent.trans (front_ent 7) ?_)
    have e := kw_fold (w := w) (b := b) (v := ⟨.slice (some ⟨bs, 0, none⟩) r0.length scap, sv1, .slice (some ⟨ba, 0, none⟩) r0.length acap, av1, .slice (some ⟨bp, 0, none⟩) r0.length pcap, pv1⟩) (S := S) (Γ := Γ) (r0 := r') (r1 := r1)
    dsimp only [kwL, ksC, kaC', kpC'] at e
    rw [h1, h2] at e
    exact e
  have hva : (r0.flatMap raC ++ sla)[j]? = some (.int .i64 0) := by
    have e := fl1_get (f := raC) (g := fun x => .int .i64 x.ans) (fun _ => rfl) r0 j hlt sla
    rw [hj] at e; rw [e]; rw [ha]
  have hvp : (r0.flatMap rqC ++ slp)[j]? = some (.bool true) := by
    have e := fl1_get (f := rqC) (g := fun x => .bool x.pend) (fun _ => rfl) r0 j hlt slp
    rw [hj] at e; rw [e]; rw [hp]
  refine ex_seq (rg_start_s (rg_boxAgg rfl fun bx => ?_))
  repeat (first|refine zA rfl ?_|refine zB rfl rfl rfl ?_|refine zD rfl ?_|refine zE rfl ?_|refine zF rfl ?_|refine zG rfl ?_|refine zP rfl ?_|refine zQ ?_|refine zR ?_|refine zS ?_|refine zU rfl ?_|refine zV rfl ?_|refine yC ?_)
  rw [show IntKind.wrap .i64 (IntKind.wrap .i64 ((j : Int) + 1) - 1) = j from by rw [rwrap (x := (j : Int) + 1) (by omega), rwrap (by omega)]; omega]
  rw [show IntKind.wrap .i64 (1 - 1) = 0 from by decide]
  refine rg_caseG rfl rfl (fun g => absurd (of_decide_eq_true g) (by omega)) (fun _ => ?_)
  repeat (first|refine zA rfl ?_|refine zC rfl ?_|refine zE rfl ?_)
  refine rg_indexArr rfl rfl (by decide) ?_
  rw [show (0 + 1 + Int.toNat 0 * 1 : Nat) = 1 from rfl]
  repeat (first|refine zA rfl ?_|refine zB rfl rfl rfl ?_|refine zF rfl ?_|refine zK rfl rfl ?_|refine zZ rfl ?_)
  refine rg_caseG rfl rfl (fun g => absurd (of_decide_eq_true g) (by omega)) (fun _ => ?_)
  repeat (first|refine zA rfl ?_|refine zC rfl ?_|refine zE rfl ?_)
  refine rg_indexArr rfl rfl (by decide) ?_
  rw [show (0 + 3 + Int.toNat 0 * 1 : Nat) = 3 from rfl]
  repeat (first|refine zA rfl ?_|refine zF rfl ?_)
  refine rg_indexSl rfl rfl ⟨by omega, by omega⟩ ?_
  rw [Int.toNat_natCast, Nat.mul_one j, Nat.zero_add j]
  refine rg_load rfl ?_ hva
  repeat (first|refine zA rfl ?_|refine zB rfl rfl rfl ?_|refine zC rfl ?_|refine zE rfl ?_|refine zK rfl rfl ?_)
  refine rg_indexArr rfl rfl (by decide) ?_
  rw [show (0 + 5 + Int.toNat 0 * 1 : Nat) = 5 from rfl]
  repeat (first|refine zA rfl ?_|refine zF rfl ?_)
  refine rg_indexSl rfl rfl ⟨by omega, by omega⟩ ?_
  rw [Int.toNat_natCast, Nat.mul_one j, Nat.zero_add j]
  refine rg_load rfl ?_ hvp
  repeat (first|refine zA rfl ?_|refine zB rfl rfl rfl ?_|refine zJ rfl ?_|refine zK rfl rfl ?_)
  apply join True
  · intro J
    refine rg_caseG rfl rfl (fun g => ?_) (fun g => ?_)
    · have g := of_decide_eq_true g
      obtain ⟨z, hz⟩ : ∃ z, r0[j - 1]? = some z := ⟨_, List.getElem?_eq_getElem (by omega)⟩
      have hzl : r0[j - 1]'(by omega) = z := by rw [List.getElem?_eq_getElem (by omega)] at hz; exact Option.some.inj hz
      have hz0 := hq z (by omega) hz
      have hvq : (r0.flatMap raC ++ sla)[j - 1]? = some (.int .i64 z.ans) := by
        have e := fl1_get (f := raC) (g := fun x => .int .i64 x.ans) (fun _ => rfl) r0 (j - 1) (by omega) sla
        rw [hzl] at e; exact e
      repeat (first|refine zA rfl ?_|refine zC rfl ?_|refine zE rfl ?_)
      refine rg_indexArr rfl rfl (by decide) ?_
      rw [show (0 + 3 + Int.toNat 0 * 1 : Nat) = 3 from rfl]
      repeat (first|refine zA rfl ?_|refine zB rfl rfl rfl ?_|refine zF rfl ?_)
      rw [show IntKind.wrap .i64 ((j : Int) - 1) = ((j - 1 : Nat) : Int) from by rw [rwrap (by omega)]; omega]
      refine rg_indexSl rfl rfl ⟨by omega, by omega⟩ ?_
      rw [Int.toNat_natCast, Nat.mul_one (j - 1), Nat.zero_add (j - 1)]
      refine rg_load rfl ?_ hvq
      repeat (first|refine zB rfl rfl rfl ?_|refine zK rfl rfl ?_|refine zQ ?_)
      rw [decide_eq_false hz0]
      repeat (first|refine zR ?_|refine zV rfl ?_|refine yB ?_)
      exact Ex.sup (E' := [(13, .int .i64 0), (9, .int .i64 j), (0, ptrV w)]) (J trivial) ⟨rfl, rfl, rfl, trivial⟩
    · repeat (first|refine zK rfl rfl ?_|refine zL rfl rfl rfl rfl (by decide) trivial rfl ?_|refine zQ ?_|refine zR ?_|refine zV rfl ?_|refine yB ?_)
      exact Ex.sup (E' := [(13, .int .i64 0), (9, .int .i64 j), (0, ptrV w)]) (J trivial) ⟨rfl, rfl, rfl, trivial⟩
  intro _
  repeat (first|refine zA rfl ?_|refine zC rfl ?_|refine zE rfl ?_|refine zS ?_)
  refine rg_indexArr rfl rfl (by decide) ?_
  rw [show (0 + 3 + Int.toNat 0 * 1 : Nat) = 3 from rfl]
  repeat (first|refine zA rfl ?_|refine zF rfl ?_)
  refine rg_indexSl rfl rfl ⟨by omega, by omega⟩ ?_
  rw [Int.toNat_natCast, Nat.mul_one j, Nat.zero_add j]
  haveI := fl_upd (f := set1) (h := raC) raC_len sla r0 j y hjj
  refine rg_store rfl rfl ?_
  repeat (first|refine zA rfl ?_|refine zC rfl ?_|refine zE rfl ?_|refine zQ ?_|refine zR ?_|refine zS ?_)
  refine rg_indexArr rfl rfl (by decide) ?_
  rw [show (0 + 1 + Int.toNat 0 * 1 : Nat) = 1 from rfl]
  repeat (first|refine zA rfl ?_|refine zF rfl ?_)
  refine rg_indexSl rfl rfl ⟨by omega, by omega⟩ ?_
  rw [Int.toNat_natCast, Nat.zero_add (j * 7)]
  haveI := sliceL_flat rpC_len r0 j y hjj sls
  refine rg_loadAgg rfl ?_
  repeat (first|refine zA rfl ?_|refine zB rfl rfl rfl ?_|refine zE rfl ?_|refine zF rfl ?_|refine zO rfl rfl ?_|refine zQ ?_|refine zR ?_|refine zS ?_|refine zW fun bl=>?_)
  refine rg_caseG rfl rfl (fun g => ?_) (fun g => ?_)
  · have g := of_decide_eq_true g
    have hnu : ¬ isUser y.p.to = true := by rw [Bool.not_eq_true]; exact (isUser_eq _).2 (.inl g)
    repeat (first|refine zA rfl ?_|refine zC rfl ?_|refine zE rfl ?_|refine zK rfl rfl ?_|refine zL rfl rfl rfl rfl (by decide) trivial rfl ?_|refine zQ ?_|refine zS ?_|refine zU rfl ?_)
    refine rg_indexArr rfl rfl (by decide) ?_
    rw [show (0 + 3 + Int.toNat 0 * 1 : Nat) = 3 from rfl]
    repeat (first|refine zA rfl ?_|refine zF rfl ?_)
    refine rg_indexSl rfl rfl ⟨by omega, by omega⟩ ?_
    rw [Int.toNat_natCast, Nat.mul_one j, Nat.zero_add j]
    haveI := fl_upd (f := set2) (h := raC) raC_len sla (updR set1 r0 j) j (set1 y) (by rw [updR_get, if_pos rfl, hjj]; rfl)
    refine rg_store rfl rfl ?_
    repeat (first|refine zG rfl ?_|refine zQ ?_|refine zR ?_|refine zS ?_|refine yD ?_)
    refine ex_rete ret Try.func24 rfl (Ent.drop (Ent.drop (Ent.refl _))) ⟨rfl, ?_⟩
    rw [updR_updR]
    have e := fin (updR (fun x => set2 (set1 x)) r0 j) (updR_len _ _ _) (fl_same (f := fun x => set2 (set1 x)) (h := rpC) (fun _ => rfl) r0 j)
    rw [fl_same (f := fun x => set2 (set1 x)) (h := rqC) (fun _ => rfl) r0 j] at e
    rw [updR_congr (f := fun x => set2 (set1 x)) (g := answ) hjj (by show (⟨y.p, 2, y.pend⟩ : Rec) = ⟨y.p, if isUser y.p.to = true then 1 else 2, y.pend⟩; rw [if_neg hnu])] at e ⊢
    exact e
  · have g := of_decide_eq_false g
    repeat (first|refine zB rfl rfl rfl ?_|refine zE rfl ?_|refine zF rfl ?_|refine zK rfl rfl ?_|refine zQ ?_)
    refine ex_cond_split rfl (fun g2 => ?_) (fun g2 => ?_)
    · have g2 := of_decide_eq_true g2
      have hnu : ¬ isUser y.p.to = true := by rw [Bool.not_eq_true]; exact (isUser_eq _).2 (.inr g2)
      repeat (first|refine zA rfl ?_|refine zC rfl ?_|refine zE rfl ?_|refine zS ?_)
      refine rg_indexArr rfl rfl (by decide) ?_
      rw [show (0 + 3 + Int.toNat 0 * 1 : Nat) = 3 from rfl]
      repeat (first|refine zA rfl ?_|refine zF rfl ?_)
      refine rg_indexSl rfl rfl ⟨by omega, by omega⟩ ?_
      rw [Int.toNat_natCast, Nat.mul_one j, Nat.zero_add j]
      haveI := fl_upd (f := set2) (h := raC) raC_len sla (updR set1 r0 j) j (set1 y) (by rw [updR_get, if_pos rfl, hjj]; rfl)
      refine rg_store rfl rfl ?_
      repeat (first|refine zG rfl ?_|refine zQ ?_|refine zR ?_|refine zS ?_|refine yD ?_)
      refine ex_rete ret Try.func24 rfl (Ent.drop (Ent.drop (Ent.refl _))) ⟨rfl, ?_⟩
      rw [updR_updR]
      have e := fin (updR (fun x => set2 (set1 x)) r0 j) (updR_len _ _ _) (fl_same (f := fun x => set2 (set1 x)) (h := rpC) (fun _ => rfl) r0 j)
      rw [fl_same (f := fun x => set2 (set1 x)) (h := rqC) (fun _ => rfl) r0 j] at e
      rw [updR_congr (f := fun x => set2 (set1 x)) (g := answ) hjj (by show (⟨y.p, 2, y.pend⟩ : Rec) = ⟨y.p, if isUser y.p.to = true then 1 else 2, y.pend⟩; rw [if_neg hnu])] at e ⊢
      exact e
    · have g2 := of_decide_eq_false g2
      have hu : isUser y.p.to = true := by
        cases e : isUser y.p.to with
        | true => rfl
        | false => rcases (isUser_eq _).1 e with h | h <;> omega
      repeat (first|refine zG rfl ?_|refine zQ ?_|refine zR ?_|refine zS ?_|refine yB ?_|refine yD ?_)
      refine ex_rete ret Try.func24 rfl (Ent.drop (Ent.drop (Ent.refl _))) ⟨rfl, ?_⟩
      have e := fin (updR set1 r0 j) (updR_len _ _ _) (fl_same (f := set1) (h := rpC) (fun _ => rfl) r0 j)
      rw [fl_same (f := set1) (h := rqC) (fun _ => rfl) r0 j] at e
      rw [updR_congr (f := set1) (g := answ) hjj (by show (⟨y.p, 1, y.pend⟩ : Rec) = ⟨y.p, if isUser y.p.to = true then 1 else 2, y.pend⟩; rw [if_pos hu])] at e ⊢
      exact e

set_option maxHeartbeats 4000000 in
theorem took5_0 (w : Nat) (S : Bg) (r0 r1 : List Rec) (n : Int) (p : Pk) (Γ : List Ch) (j : Nat) (y : Rec) (hjj : r0[j]? = some y) (hl : r0.length < 100000000) (hp : y.pend = true) (ha : y.ans ≠ 0) (hq : ∀ j' z, j' < j → r0[j']? = some z → z.pend = false) :
    CallsX Try.prog 24 #[ptrV w, .int .i64 0, stV ⟨5, (j : Int) + 1, p⟩, .int .u64 n] (.pr (KwAt w S r0 r1) :: Γ) (fun v Δ => v = .bool true ∧ Ent Δ (.pr (KwAt w S (updR unp r0 j) r1) :: Γ)) := by
  have hlt : j < r0.length := lt_some hjj
  have hj : r0[j] = y := by rw [List.getElem?_eq_getElem hlt] at hjj; exact Option.some.inj hjj
  refine CallsX.open_ kw_open fun z _ => ?_
  obtain ⟨b, v⟩ := z
  obtain ⟨sv0, sv1, av0, av1, pv0, pv1⟩ := v
  dsimp only [kwL]
  refine calls_of_body (args := [ptrV w, .int .i64 0, stV ⟨5, (j : Int) + 1, p⟩, .int .u64 n]) Try.func24 rfl Try.ntmps24 fun X cs ret => ?_
  (refine Ex.front 1 ?_)
  refine ex_slp (p := true) (fun _ _ h => absurd h (by omega)) (fun bs scap sls hs hzs => ?_)
  subst hs
  (refine Ex.front 3 ?_)
  refine ex_slp (p := true) (fun _ _ h => absurd h (by omega)) (fun ba acap sla hs hza => ?_)
  subst hs
  (refine Ex.front 5 ?_)
  refine ex_slp (p := true) (fun _ _ h => absurd h (by omega)) (fun bp pcap slp hs hzp => ?_)
  subst hs
  have fin : ∀ r' : List Rec, r'.length = r0.length → r'.flatMap rpC = r0.flatMap rpC → Ent (.pt bp true (.cells ⟨r'.flatMap rqC ++ slp⟩ 4 (0, 0)) :: .pt ba true (.cells ⟨r'.flatMap raC ++ sla⟩ 3 (0, 0)) :: .pt bs true (.cells ⟨r0.flatMap rpC ++ sls⟩ 49 (0, 0)) ::
      kwC w b ⟨.slice (some ⟨bs, 0, none⟩) r0.length scap, sv1, .slice (some ⟨ba, 0, none⟩) r0.length acap, av1, .slice (some ⟨bp, 0, none⟩) r0.length pcap, pv1⟩ :: ksC sv1 r1 :: kaC' av1 r1 :: kpC' pv1 r1 :: .pr (BgAt b S) :: Γ) (.pr (KwAt w S r' r1) :: Γ) := fun r' h1 h2 => by
    refine Ent.trans (EntR.e (slp_fold (m := 1) (len := r0.length) bp pcap slp ⟨hzp.1, by rw [flat_len rqC_len, h1], hzp.2.2⟩)) ?_
    refine Ent.trans (front_ent 1) (Ent.trans (EntR.e (slp_fold (m := 1) (len := r0.length) ba acap sla ⟨hza.1, by rw [flat_len raC_len, h1], hza.2.2⟩)) ?_)
    refine Ent.trans (front_ent 2) (Ent.trans (EntR.e (slp_fold bs scap sls hzs)) ?_)
    (refine Ent.trans (front_ent 7) ?_; refine Ent.trans (front_ent 7) ?_; refine Ent.trans (front_ent 4) ?_; refine Ent.trans (front_ent 7) ?_; refine Ent.trans (front_ent 5) ?_; refine Ent.trans (front_ent 7) ?_; refine Ent.trans (front_ent 6) ?_; refine Ent.trans (front_ent 7) ?_)
    have e := kw_fold (w := w) (b := b) (v := ⟨.slice (some ⟨bs, 0, none⟩) r0.length scap, sv1, .slice (some ⟨ba, 0, none⟩) r0.length acap, av1, .slice (some ⟨bp, 0, none⟩) r0.length pcap, pv1⟩) (S := S) (Γ := Γ) (r0 := r') (r1 := r1)
    dsimp only [kwL, ksC, kaC', kpC'] at e
    rw [h1, h2] at e
    exact e
  have hva : (r0.flatMap raC ++ sla)[j]? = some (.int .i64 y.ans) := by
    have e := fl1_get (f := raC) (g := fun x => .int .i64 x.ans) (fun _ => rfl) r0 j hlt sla
    rw [hj] at e; rw [e]
  have hvp : (r0.flatMap rqC ++ slp)[j]? = some (.bool true) := by
    have e := fl1_get (f := rqC) (g := fun x => .bool x.pend) (fun _ => rfl) r0 j hlt slp
    rw [hj] at e; rw [e]; rw [hp]
  refine ex_seq (rg_start_s (rg_boxAgg rfl fun bx => ?_))
  repeat (first|refine zA rfl ?_|refine zB rfl rfl rfl ?_|refine zD rfl ?_|refine zE rfl ?_|refine zF rfl ?_|refine zG rfl ?_|refine zP rfl ?_|refine zQ ?_|refine zR ?_|refine zS ?_|refine zU rfl ?_|refine zV rfl ?_|refine yC ?_)
  rw [show IntKind.wrap .i64 (IntKind.wrap .i64 ((j : Int) + 1) - 1) = j from by rw [rwrap (x := (j : Int) + 1) (by omega), rwrap (by omega)]; omega]
  refine rg_caseG rfl rfl (fun g => absurd (of_decide_eq_true g) (by omega)) (fun _ => ?_)
  repeat (first|refine zA rfl ?_|refine zC rfl ?_|refine zE rfl ?_)
  refine rg_indexArr rfl rfl (by decide) ?_
  rw [show (0 + 1 + Int.toNat 0 * 1 : Nat) = 1 from rfl]
  repeat (first|refine zA rfl ?_|refine zB rfl rfl rfl ?_|refine zF rfl ?_|refine zK rfl rfl ?_|refine zZ rfl ?_)
  refine rg_caseG rfl rfl (fun g => absurd (of_decide_eq_true g) (by omega)) (fun _ => ?_)
  repeat (first|refine zA rfl ?_|refine zC rfl ?_|refine zE rfl ?_)
  refine rg_indexArr rfl rfl (by decide) ?_
  rw [show (0 + 3 + Int.toNat 0 * 1 : Nat) = 3 from rfl]
  repeat (first|refine zA rfl ?_|refine zF rfl ?_)
  refine rg_indexSl rfl rfl ⟨by omega, by omega⟩ ?_
  rw [Int.toNat_natCast, Nat.mul_one j, Nat.zero_add j]
  refine rg_load rfl ?_ hva
  repeat (first|refine zA rfl ?_|refine zB rfl rfl rfl ?_|refine zK rfl rfl ?_)
  rw [decide_eq_false ha]
  repeat (first|refine zA rfl ?_|refine zC rfl ?_|refine zE rfl ?_)
  refine rg_indexArr rfl rfl (by decide) ?_
  rw [show (0 + 5 + Int.toNat 0 * 1 : Nat) = 5 from rfl]
  repeat (first|refine zA rfl ?_|refine zF rfl ?_)
  refine rg_indexSl rfl rfl ⟨by omega, by omega⟩ ?_
  rw [Int.toNat_natCast, Nat.mul_one j, Nat.zero_add j]
  refine rg_load rfl ?_ hvp
  repeat (first|refine zA rfl ?_|refine zJ rfl ?_|refine zK rfl rfl ?_|refine zQ ?_|refine zR ?_|refine zS ?_|refine zV rfl ?_|refine yB ?_|refine yC ?_)
  refine ex_loop ?_
  obtain ⟨Δ0, hΔ⟩ : ∃ Δ0 : List Ch, Δ0 = .pt bx true (.cells ⟨stC ⟨5, (j : Int) + 1, p⟩⟩ 51 (0, 0)) :: .pt bp true (.cells ⟨r0.flatMap rqC ++ slp⟩ 4 (0, 0)) :: .pt ba true (.cells ⟨r0.flatMap raC ++ sla⟩ 3 (0, 0)) :: .pt bs true (.cells ⟨r0.flatMap rpC ++ sls⟩ 49 (0, 0)) :: kwC w b ⟨.slice (some ⟨bs, 0, none⟩) r0.length scap, sv1, .slice (some ⟨ba, 0, none⟩) r0.length acap, av1, .slice (some ⟨bp, 0, none⟩) r0.length pcap, pv1⟩ :: ksC sv1 r1 :: kaC' av1 r1 :: kpC' pv1 r1 :: .pr (BgAt b S) :: Γ := ⟨_, rfl⟩
  refine ex_ind (ι := Nat) (fun k => j + 1 - k) (fun k => [(212, .int .i64 k), (211, .int .i64 j), (9, .int .i64 j), (1, .int .i64 0), (0, ptrV w)]) (fun _ => Δ0) (fun k => k ≤ j) 0 (Nat.zero_le _) ⟨rfl, rfl, rfl, rfl, rfl, trivial⟩ (by rw [hΔ]) (fun k hk IH => ?_)
  subst hΔ
  repeat (first|refine zB rfl rfl rfl ?_|refine zQ ?_|refine zR ?_|refine zS ?_)
  refine ex_cond_split rfl (fun h1 => ?_) (fun h1 => ?_)
  · have hkl : k < j := by have := of_decide_eq_true h1; omega
    obtain ⟨z, hz⟩ : ∃ z, r0[k]? = some z := ⟨_, List.getElem?_eq_getElem (by omega)⟩
    have hzl : r0[k]'(by omega) = z := by rw [List.getElem?_eq_getElem (by omega)] at hz; exact Option.some.inj hz
    have hvq : (r0.flatMap rqC ++ slp)[k]? = some (.bool false) := by
      have e := fl1_get (f := rqC) (g := fun x => .bool x.pend) (fun _ => rfl) r0 k (by omega) slp
      rw [hzl] at e; rw [e, hq k z hkl hz]
    repeat (first|refine zA rfl ?_|refine zC rfl ?_|refine zE rfl ?_|refine zG rfl ?_|refine zQ ?_|refine zR ?_|refine zS ?_|refine yB ?_|refine yC ?_)
    refine rg_indexArr rfl rfl (by decide) ?_
    rw [show (0 + 5 + Int.toNat 0 * 1 : Nat) = 5 from rfl]
    repeat (first|refine zA rfl ?_|refine zF rfl ?_)
    refine rg_indexSl rfl rfl ⟨by omega, by omega⟩ ?_
    rw [Int.toNat_natCast, Nat.mul_one k, Nat.zero_add k]
    refine rg_load rfl ?_ hvq
    repeat (first|refine zA rfl ?_|refine zB rfl rfl rfl ?_|refine zQ ?_|refine zS ?_|refine zV rfl ?_|refine yB ?_|refine yD ?_)
    refine ex_inLoop ?_
    rw [rwrap (x := (k : Int) + 1) (by omega)]
    exact Ex.sup (IH (k + 1) (by omega) (by omega)) ⟨rfl, rfl, rfl, rfl, rfl, trivial⟩
  repeat (first|refine zA rfl ?_|refine zC rfl ?_|refine zE rfl ?_|refine zS ?_|refine yE rfl ?_)
  refine rg_indexArr rfl rfl (by decide) ?_
  rw [show (0 + 5 + Int.toNat 0 * 1 : Nat) = 5 from rfl]
  repeat (first|refine zA rfl ?_|refine zF rfl ?_)
  refine rg_indexSl rfl rfl ⟨by omega, by omega⟩ ?_
  rw [Int.toNat_natCast, Nat.mul_one j, Nat.zero_add j]
  haveI := fl_upd (f := unp) (h := rqC) rqC_len slp r0 j y hjj
  refine rg_store rfl rfl ?_
  repeat (first|refine zG rfl ?_|refine zQ ?_|refine zR ?_|refine zS ?_|refine yD ?_)
  refine ex_rete ret Try.func24 rfl (Ent.drop (Ent.refl _)) ⟨rfl, ?_⟩
  have e := fin (updR unp r0 j) (updR_len _ _ _) (fl_same (f := unp) (h := rpC) (fun _ => rfl) r0 j)
  rw [fl_same (f := unp) (h := raC) (fun _ => rfl) r0 j] at e
  exact e

set_option maxHeartbeats 4000000 in
theorem took5_1 (w : Nat) (S : Bg) (r0 r1 : List Rec) (n : Int) (p : Pk) (Γ : List Ch) (j : Nat) (y : Rec) (hjj : r1[j]? = some y) (hl : r1.length < 100000000) (hp : y.pend = true) (ha : y.ans ≠ 0) (hq : ∀ j' z, j' < j → r1[j']? = some z → z.pend = false) :
    CallsX Try.prog 24 #[ptrV w, .int .i64 1, stV ⟨5, (j : Int) + 1, p⟩, .int .u64 n] (.pr (KwAt w S r0 r1) :: Γ) (fun v Δ => v = .bool true ∧ Ent Δ (.pr (KwAt w S r0 (updR unp r1 j)) :: Γ)) := by
  have hlt : j < r1.length := lt_some hjj
  have hj : r1[j] = y := by rw [List.getElem?_eq_getElem hlt] at hjj; exact Option.some.inj hjj
  refine CallsX.open_ kw_open fun z _ => ?_
  obtain ⟨b, v⟩ := z
  obtain ⟨sv0, sv1, av0, av1, pv0, pv1⟩ := v
  dsimp only [kwL]
  refine calls_of_body (args := [ptrV w, .int .i64 1, stV ⟨5, (j : Int) + 1, p⟩, .int .u64 n]) Try.func24 rfl Try.ntmps24 fun X cs ret => ?_
  (refine Ex.front 2 ?_)
  refine ex_slp (p := true) (fun _ _ h => absurd h (by omega)) (fun bs scap sls hs hzs => ?_)
  subst hs
  (refine Ex.front 4 ?_)
  refine ex_slp (p := true) (fun _ _ h => absurd h (by omega)) (fun ba acap sla hs hza => ?_)
  subst hs
  (refine Ex.front 6 ?_)
  refine ex_slp (p := true) (fun _ _ h => absurd h (by omega)) (fun bp pcap slp hs hzp => ?_)
  subst hs
  have fin : ∀ r' : List Rec, r'.length = r1.length → r'.flatMap rpC = r1.flatMap rpC → Ent (.pt bp true (.cells ⟨r'.flatMap rqC ++ slp⟩ 4 (0, 0)) :: .pt ba true (.cells ⟨r'.flatMap raC ++ sla⟩ 3 (0, 0)) :: .pt bs true (.cells ⟨r1.flatMap rpC ++ sls⟩ 49 (0, 0)) ::
      kwC w b ⟨sv0, .slice (some ⟨bs, 0, none⟩) r1.length scap, av0, .slice (some ⟨ba, 0, none⟩) r1.length acap, pv0, .slice (some ⟨bp, 0, none⟩) r1.length pcap⟩ :: ksC sv0 r0 :: kaC' av0 r0 :: kpC' pv0 r0 :: .pr (BgAt b S) :: Γ) (.pr (KwAt w S r0 r') :: Γ) := fun r' h1 h2 => by
    refine Ent.trans (EntR.e (slp_fold (m := 1) (len := r1.length) bp pcap slp ⟨hzp.1, by rw [flat_len rqC_len, h1], hzp.2.2⟩)) ?_
    refine Ent.trans (front_ent 1) (Ent.trans (EntR.e (slp_fold (m := 1) (len := r1.length) ba acap sla ⟨hza.1, by rw [flat_len raC_len, h1], hza.2.2⟩)) ?_)
    refine Ent.trans (front_ent 2) (Ent.trans (EntR.e (slp_fold bs scap sls hzs)) ?_)
    (refine Ent.trans (front_ent 7) ?_; refine Ent.trans (front_ent 3) ?_; refine Ent.trans (front_ent 7) ?_; refine Ent.trans (front_ent 4) ?_; refine Ent.trans (front_ent 7) ?_; refine Ent.trans (front_ent 5) ?_; refine Ent.trans (front_ent 7) ?_; refine Ent.trans (front_ent 7) ?_)
    have e := kw_fold (w := w) (b := b) (v := ⟨sv0, .slice (some ⟨bs, 0, none⟩) r1.length scap, av0, .slice (some ⟨ba, 0, none⟩) r1.length acap, pv0, .slice (some ⟨bp, 0, none⟩) r1.length pcap⟩) (S := S) (Γ := Γ) (r0 := r0) (r1 := r')
    dsimp only [kwL, ksC, kaC', kpC'] at e
    rw [h1, h2] at e
    exact e
  have hva : (r1.flatMap raC ++ sla)[j]? = some (.int .i64 y.ans) := by
    have e := fl1_get (f := raC) (g := fun x => .int .i64 x.ans) (fun _ => rfl) r1 j hlt sla
    rw [hj] at e; rw [e]
  have hvp : (r1.flatMap rqC ++ slp)[j]? = some (.bool true) := by
    have e := fl1_get (f := rqC) (g := fun x => .bool x.pend) (fun _ => rfl) r1 j hlt slp
    rw [hj] at e; rw [e]; rw [hp]
  refine ex_seq (rg_start_s (rg_boxAgg rfl fun bx => ?_))
  repeat (first|refine zA rfl ?_|refine zB rfl rfl rfl ?_|refine zD rfl ?_|refine zE rfl ?_|refine zF rfl ?_|refine zG rfl ?_|refine zP rfl ?_|refine zQ ?_|refine zR ?_|refine zS ?_|refine zU rfl ?_|refine zV rfl ?_|refine yC ?_)
  rw [show IntKind.wrap .i64 (IntKind.wrap .i64 ((j : Int) + 1) - 1) = j from by rw [rwrap (x := (j : Int) + 1) (by omega), rwrap (by omega)]; omega]
  refine rg_caseG rfl rfl (fun g => absurd (of_decide_eq_true g) (by omega)) (fun _ => ?_)
  repeat (first|refine zA rfl ?_|refine zC rfl ?_|refine zE rfl ?_)
  refine rg_indexArr rfl rfl (by decide) ?_
  rw [show (0 + 1 + Int.toNat 1 * 1 : Nat) = 2 from rfl]
  repeat (first|refine zA rfl ?_|refine zB rfl rfl rfl ?_|refine zF rfl ?_|refine zK rfl rfl ?_|refine zZ rfl ?_)
  refine rg_caseG rfl rfl (fun g => absurd (of_decide_eq_true g) (by omega)) (fun _ => ?_)
  repeat (first|refine zA rfl ?_|refine zC rfl ?_|refine zE rfl ?_)
  refine rg_indexArr rfl rfl (by decide) ?_
  rw [show (0 + 3 + Int.toNat 1 * 1 : Nat) = 4 from rfl]
  repeat (first|refine zA rfl ?_|refine zF rfl ?_)
  refine rg_indexSl rfl rfl ⟨by omega, by omega⟩ ?_
  rw [Int.toNat_natCast, Nat.mul_one j, Nat.zero_add j]
  refine rg_load rfl ?_ hva
  repeat (first|refine zA rfl ?_|refine zB rfl rfl rfl ?_|refine zK rfl rfl ?_)
  rw [decide_eq_false ha]
  repeat (first|refine zA rfl ?_|refine zC rfl ?_|refine zE rfl ?_)
  refine rg_indexArr rfl rfl (by decide) ?_
  rw [show (0 + 5 + Int.toNat 1 * 1 : Nat) = 6 from rfl]
  repeat (first|refine zA rfl ?_|refine zF rfl ?_)
  refine rg_indexSl rfl rfl ⟨by omega, by omega⟩ ?_
  rw [Int.toNat_natCast, Nat.mul_one j, Nat.zero_add j]
  refine rg_load rfl ?_ hvp
  repeat (first|refine zA rfl ?_|refine zJ rfl ?_|refine zK rfl rfl ?_|refine zQ ?_|refine zR ?_|refine zS ?_|refine zV rfl ?_|refine yB ?_|refine yC ?_)
  refine ex_loop ?_
  obtain ⟨Δ0, hΔ⟩ : ∃ Δ0 : List Ch, Δ0 = .pt bx true (.cells ⟨stC ⟨5, (j : Int) + 1, p⟩⟩ 51 (0, 0)) :: .pt bp true (.cells ⟨r1.flatMap rqC ++ slp⟩ 4 (0, 0)) :: .pt ba true (.cells ⟨r1.flatMap raC ++ sla⟩ 3 (0, 0)) :: .pt bs true (.cells ⟨r1.flatMap rpC ++ sls⟩ 49 (0, 0)) :: kwC w b ⟨sv0, .slice (some ⟨bs, 0, none⟩) r1.length scap, av0, .slice (some ⟨ba, 0, none⟩) r1.length acap, pv0, .slice (some ⟨bp, 0, none⟩) r1.length pcap⟩ :: ksC sv0 r0 :: kaC' av0 r0 :: kpC' pv0 r0 :: .pr (BgAt b S) :: Γ := ⟨_, rfl⟩
  refine ex_ind (ι := Nat) (fun k => j + 1 - k) (fun k => [(212, .int .i64 k), (211, .int .i64 j), (9, .int .i64 j), (1, .int .i64 1), (0, ptrV w)]) (fun _ => Δ0) (fun k => k ≤ j) 0 (Nat.zero_le _) ⟨rfl, rfl, rfl, rfl, rfl, trivial⟩ (by rw [hΔ]) (fun k hk IH => ?_)
  subst hΔ
  repeat (first|refine zB rfl rfl rfl ?_|refine zQ ?_|refine zR ?_|refine zS ?_)
  refine ex_cond_split rfl (fun h1 => ?_) (fun h1 => ?_)
  · have hkl : k < j := by have := of_decide_eq_true h1; omega
    obtain ⟨z, hz⟩ : ∃ z, r1[k]? = some z := ⟨_, List.getElem?_eq_getElem (by omega)⟩
    have hzl : r1[k]'(by omega) = z := by rw [List.getElem?_eq_getElem (by omega)] at hz; exact Option.some.inj hz
    have hvq : (r1.flatMap rqC ++ slp)[k]? = some (.bool false) := by
      have e := fl1_get (f := rqC) (g := fun x => .bool x.pend) (fun _ => rfl) r1 k (by omega) slp
      rw [hzl] at e; rw [e, hq k z hkl hz]
    repeat (first|refine zA rfl ?_|refine zC rfl ?_|refine zE rfl ?_|refine zG rfl ?_|refine zQ ?_|refine zR ?_|refine zS ?_|refine yB ?_|refine yC ?_)
    refine rg_indexArr rfl rfl (by decide) ?_
    rw [show (0 + 5 + Int.toNat 1 * 1 : Nat) = 6 from rfl]
    repeat (first|refine zA rfl ?_|refine zF rfl ?_)
    refine rg_indexSl rfl rfl ⟨by omega, by omega⟩ ?_
    rw [Int.toNat_natCast, Nat.mul_one k, Nat.zero_add k]
    refine rg_load rfl ?_ hvq
    repeat (first|refine zA rfl ?_|refine zB rfl rfl rfl ?_|refine zQ ?_|refine zS ?_|refine zV rfl ?_|refine yB ?_|refine yD ?_)
    refine ex_inLoop ?_
    rw [rwrap (x := (k : Int) + 1) (by omega)]
    exact Ex.sup (IH (k + 1) (by omega) (by omega)) ⟨rfl, rfl, rfl, rfl, rfl, trivial⟩
  repeat (first|refine zA rfl ?_|refine zC rfl ?_|refine zE rfl ?_|refine zS ?_|refine yE rfl ?_)
  refine rg_indexArr rfl rfl (by decide) ?_
  rw [show (0 + 5 + Int.toNat 1 * 1 : Nat) = 6 from rfl]
  repeat (first|refine zA rfl ?_|refine zF rfl ?_)
  refine rg_indexSl rfl rfl ⟨by omega, by omega⟩ ?_
  rw [Int.toNat_natCast, Nat.mul_one j, Nat.zero_add j]
  haveI := fl_upd (f := unp) (h := rqC) rqC_len slp r1 j y hjj
  refine rg_store rfl rfl ?_
  repeat (first|refine zG rfl ?_|refine zQ ?_|refine zR ?_|refine zS ?_|refine yD ?_)
  refine ex_rete ret Try.func24 rfl (Ent.drop (Ent.refl _)) ⟨rfl, ?_⟩
  have e := fin (updR unp r1 j) (updR_len _ _ _) (fl_same (f := unp) (h := rpC) (fun _ => rfl) r1 j)
  rw [fl_same (f := unp) (h := raC) (fun _ => rfl) r1 j] at e
  exact e

set_option maxHeartbeats 4000000 in
theorem took6_0 (w : Nat) (S : Bg) (r0 r1 : List Rec) (n : Int) (p : Pk) (B : Nat) (Γ : List Ch) (ok : BgOk B S) (hB : B < 100000000) (j : Nat) (y : Rec) (hjj : r0[j]? = some y) (hl : r0.length < 100000000) (hp : y.pend = true) (ha : y.ans = 0) (hopn : S.s0.hd.opn = false) :
    CallsX Try.prog 24 #[ptrV w, .int .i64 0, stV ⟨6, (j : Int) + 1, p⟩, .int .u64 n] (.pr (KwAt w S r0 r1) :: Γ) (fun v Δ => v = .bool true ∧ Ent Δ (.pr (KwAt w S (updR unp r0 j) r1) :: Γ)) := by
  have hlt : j < r0.length := lt_some hjj
  have hj : r0[j] = y := by rw [List.getElem?_eq_getElem hlt] at hjj; exact Option.some.inj hjj
  refine CallsX.open_ kw_open fun z _ => ?_
  obtain ⟨b, v⟩ := z
  obtain ⟨sv0, sv1, av0, av1, pv0, pv1⟩ := v
  dsimp only [kwL]
  refine calls_of_body (args := [ptrV w, .int .i64 0, stV ⟨6, (j : Int) + 1, p⟩, .int .u64 n]) Try.func24 rfl Try.ntmps24 fun X cs ret => ?_
  (refine Ex.front 1 ?_)
  refine ex_slp (p := true) (fun _ _ h => absurd h (by omega)) (fun bs scap sls hs hzs => ?_)
  subst hs
  (refine Ex.front 3 ?_)
  refine ex_slp (p := true) (fun _ _ h => absurd h (by omega)) (fun ba acap sla hs hza => ?_)
  subst hs
  (refine Ex.front 5 ?_)
  refine ex_slp (p := true) (fun _ _ h => absurd h (by omega)) (fun bp pcap slp hs hzp => ?_)
  subst hs
  have fin : ∀ r' : List Rec, r'.length = r0.length → r'.flatMap rpC = r0.flatMap rpC → Ent (.pt bp true (.cells ⟨r'.flatMap rqC ++ slp⟩ 4 (0, 0)) :: .pt ba true (.cells ⟨r'.flatMap raC ++ sla⟩ 3 (0, 0)) :: .pt bs true (.cells ⟨r0.flatMap rpC ++ sls⟩ 49 (0, 0)) ::
      kwC w b ⟨.slice (some ⟨bs, 0, none⟩) r0.length scap, sv1, .slice (some ⟨ba, 0, none⟩) r0.length acap, av1, .slice (some ⟨bp, 0, none⟩) r0.length pcap, pv1⟩ :: ksC sv1 r1 :: kaC' av1 r1 :: kpC' pv1 r1 :: .pr (BgAt b S) :: Γ) (.pr (KwAt w S r' r1) :: Γ) := fun r' h1 h2 => by
    refine Ent.trans (EntR.e (slp_fold (m := 1) (len := r0.length) bp pcap slp ⟨hzp.1, by rw [flat_len rqC_len, h1], hzp.2.2⟩)) ?_
    refine Ent.trans (front_ent 1) (Ent.trans (EntR.e (slp_fold (m := 1) (len := r0.length) ba acap sla ⟨hza.1, by rw [flat_len raC_len, h1], hza.2.2⟩)) ?_)
    refine Ent.trans (front_ent 2) (Ent.trans (EntR.e (slp_fold bs scap sls hzs)) ?_)
    (refine Ent.trans (front_ent 7) ?_; refine Ent.trans (front_ent 7) ?_; refine Ent.trans (front_ent 4) ?_; refine Ent.trans (front_ent 7) ?_; refine Ent.trans (front_ent 5) ?_; refine Ent.trans (front_ent 7) ?_; refine Ent.trans (front_ent 6) ?_; refine Ent.trans (front_ent 7) ?_)
    have e := kw_fold (w := w) (b := b) (v := ⟨.slice (some ⟨bs, 0, none⟩) r0.length scap, sv1, .slice (some ⟨ba, 0, none⟩) r0.length acap, av1, .slice (some ⟨bp, 0, none⟩) r0.length pcap, pv1⟩) (S := S) (Γ := Γ) (r0 := r') (r1 := r1)
    dsimp only [kwL, ksC, kaC', kpC'] at e
    rw [h1, h2] at e
    exact e
  have hva : (r0.flatMap raC ++ sla)[j]? = some (.int .i64 0) := by
    have e := fl1_get (f := raC) (g := fun x => .int .i64 x.ans) (fun _ => rfl) r0 j hlt sla
    rw [hj] at e; rw [e]; rw [ha]
  have hvp : (r0.flatMap rqC ++ slp)[j]? = some (.bool true) := by
    have e := fl1_get (f := rqC) (g := fun x => .bool x.pend) (fun _ => rfl) r0 j hlt slp
    rw [hj] at e; rw [e]; rw [hp]
  refine ex_seq (rg_start_s (rg_boxAgg rfl fun bx => ?_))
  repeat (first|refine zA rfl ?_|refine zB rfl rfl rfl ?_|refine zD rfl ?_|refine zE rfl ?_|refine zF rfl ?_|refine zG rfl ?_|refine zP rfl ?_|refine zQ ?_|refine zR ?_|refine zS ?_|refine zU rfl ?_|refine zV rfl ?_|refine yB ?_|refine yC ?_)
  rw [show IntKind.wrap .i64 (IntKind.wrap .i64 ((j : Int) + 1) - 1) = j from by rw [rwrap (x := (j : Int) + 1) (by omega), rwrap (by omega)]; omega]
  refine rg_caseG rfl rfl (fun g => absurd (of_decide_eq_true g) (by omega)) (fun _ => ?_)
  repeat (first|refine zA rfl ?_|refine zC rfl ?_|refine zE rfl ?_)
  refine rg_indexArr rfl rfl (by decide) ?_
  rw [show (0 + 1 + Int.toNat 0 * 1 : Nat) = 1 from rfl]
  repeat (first|refine zA rfl ?_|refine zB rfl rfl rfl ?_|refine zF rfl ?_|refine zK rfl rfl ?_|refine zZ rfl ?_)
  refine rg_caseG rfl rfl (fun g => absurd (of_decide_eq_true g) (by omega)) (fun _ => ?_)
  repeat (first|refine zA rfl ?_|refine zC rfl ?_|refine zE rfl ?_)
  refine rg_indexArr rfl rfl (by decide) ?_
  rw [show (0 + 3 + Int.toNat 0 * 1 : Nat) = 3 from rfl]
  repeat (first|refine zA rfl ?_|refine zF rfl ?_)
  refine rg_indexSl rfl rfl ⟨by omega, by omega⟩ ?_
  rw [Int.toNat_natCast, Nat.mul_one j, Nat.zero_add j]
  refine rg_load rfl ?_ hva
  repeat (first|refine zA rfl ?_|refine zB rfl rfl rfl ?_|refine zC rfl ?_|refine zE rfl ?_|refine zK rfl rfl ?_)
  refine rg_indexArr rfl rfl (by decide) ?_
  rw [show (0 + 5 + Int.toNat 0 * 1 : Nat) = 5 from rfl]
  repeat (first|refine zA rfl ?_|refine zF rfl ?_)
  refine rg_indexSl rfl rfl ⟨by omega, by omega⟩ ?_
  rw [Int.toNat_natCast, Nat.mul_one j, Nat.zero_add j]
  refine rg_load rfl ?_ hvp
  repeat (first|refine zA rfl ?_|refine zC rfl ?_|refine zE rfl ?_|refine zJ rfl ?_|refine zK rfl rfl ?_|refine zQ ?_|refine zR ?_|refine zS ?_|refine zV rfl ?_|refine yB ?_)
  refine rg_indexArr rfl rfl (by decide) ?_
  rw [show (0 + 5 + Int.toNat 0 * 1 : Nat) = 5 from rfl]
  repeat (first|refine zA rfl ?_|refine zF rfl ?_)
  refine rg_indexSl rfl rfl ⟨by omega, by omega⟩ ?_
  rw [Int.toNat_natCast, Nat.mul_one j, Nat.zero_add j]
  haveI := fl_upd (f := unp) (h := rqC) rqC_len slp r0 j y hjj
  refine rg_store rfl rfl ?_
  repeat (first|refine zA rfl ?_|refine zC rfl ?_|refine zD rfl ?_|refine zF rfl ?_|refine zQ ?_|refine zR ?_|refine zS ?_)
  (refine Rg.front 7 ?_; refine Rg.front 7 ?_; refine Rg.front 7 ?_; refine Rg.front 7 ?_; refine Rg.front 7 ?_; refine Rg.front 7 ?_; refine Rg.front 7 ?_; refine Rg.front 7 ?_; refine Rg.front 8 ?_)
  refine rg_call rfl (Look0_bg b S B _ ok hB) ?_
  rintro _ D ⟨la, lc, rfl, hE⟩
  refine ⟨.inl rfl, Rg.ent hE ?_⟩
  unfold lookL
  rw [hopn]
  repeat (first|refine zA rfl ?_|refine zB rfl rfl rfl ?_|refine zE rfl ?_|refine zF rfl ?_|refine zG rfl ?_|refine zI rfl rfl ?_|refine zJ rfl ?_|refine zK rfl rfl ?_|refine zO rfl rfl ?_|refine zQ ?_|refine zR ?_|refine zS ?_|refine zW fun bl=>?_)
  (refine Ex.front 2 ?_; refine Ex.front 10 ?_; refine Ex.front 10 ?_; refine Ex.front 10 ?_; refine Ex.front 10 ?_; refine Ex.front 10 ?_; refine Ex.front 10 ?_; refine Ex.front 10 ?_; refine Ex.front 10 ?_; refine Ex.front 10 ?_; refine Ex.front 10 ?_)
  refine ex_rete ret Try.func24 rfl (Ent.drop (Ent.drop (Ent.drop (Ent.refl _)))) ⟨rfl, ?_⟩
  have e := fin (updR unp r0 j) (updR_len _ _ _) (fl_same (f := unp) (h := rpC) (fun _ => rfl) r0 j)
  rw [fl_same (f := unp) (h := raC) (fun _ => rfl) r0 j] at e
  exact e

set_option maxHeartbeats 4000000 in
theorem took7_0 (w : Nat) (S : Bg) (r0 r1 : List Rec) (n : Int) (p : Pk) (B : Nat) (Γ : List Ch) (ok : BgOk B S) (hB : B < 100000000) (j : Nat) (y : Rec) (hjj : r0[j]? = some y) (hl : r0.length < 100000000) (hp : y.pend = true) (ha : y.ans = 0) (hopn : S.s0.hd.opn = false) :
    CallsX Try.prog 24 #[ptrV w, .int .i64 0, stV ⟨7, (j : Int) + 1, p⟩, .int .u64 n] (.pr (KwAt w S r0 r1) :: Γ) (fun v Δ => v = .bool true ∧ Ent Δ (.pr (KwAt w S (updR unp r0 j) r1) :: Γ)) := by
  have hlt : j < r0.length := lt_some hjj
  have hj : r0[j] = y := by rw [List.getElem?_eq_getElem hlt] at hjj; exact Option.some.inj hjj
  refine CallsX.open_ kw_open fun z _ => ?_
  obtain ⟨b, v⟩ := z
  obtain ⟨sv0, sv1, av0, av1, pv0, pv1⟩ := v
  dsimp only [kwL]
  refine calls_of_body (args := [ptrV w, .int .i64 0, stV ⟨7, (j : Int) + 1, p⟩, .int .u64 n]) Try.func24 rfl Try.ntmps24 fun X cs ret => ?_
  (refine Ex.front 1 ?_)
  refine ex_slp (p := true) (fun _ _ h => absurd h (by omega)) (fun bs scap sls hs hzs => ?_)
  subst hs
  (refine Ex.front 3 ?_)
  refine ex_slp (p := true) (fun _ _ h => absurd h (by omega)) (fun ba acap sla hs hza => ?_)
  subst hs
  (refine Ex.front 5 ?_)
  refine ex_slp (p := true) (fun _ _ h => absurd h (by omega)) (fun bp pcap slp hs hzp => ?_)
  subst hs
  have fin : ∀ r' : List Rec, r'.length = r0.length → r'.flatMap rpC = r0.flatMap rpC → Ent (.pt bp true (.cells ⟨r'.flatMap rqC ++ slp⟩ 4 (0, 0)) :: .pt ba true (.cells ⟨r'.flatMap raC ++ sla⟩ 3 (0, 0)) :: .pt bs true (.cells ⟨r0.flatMap rpC ++ sls⟩ 49 (0, 0)) ::
      kwC w b ⟨.slice (some ⟨bs, 0, none⟩) r0.length scap, sv1, .slice (some ⟨ba, 0, none⟩) r0.length acap, av1, .slice (some ⟨bp, 0, none⟩) r0.length pcap, pv1⟩ :: ksC sv1 r1 :: kaC' av1 r1 :: kpC' pv1 r1 :: .pr (BgAt b S) :: Γ) (.pr (KwAt w S r' r1) :: Γ) := fun r' h1 h2 => by
    refine Ent.trans (EntR.e (slp_fold (m := 1) (len := r0.length) bp pcap slp ⟨hzp.1, by rw [flat_len rqC_len, h1], hzp.2.2⟩)) ?_
    refine Ent.trans (front_ent 1) (Ent.trans (EntR.e (slp_fold (m := 1) (len := r0.length) ba acap sla ⟨hza.1, by rw [flat_len raC_len, h1], hza.2.2⟩)) ?_)
    refine Ent.trans (front_ent 2) (Ent.trans (EntR.e (slp_fold bs scap sls hzs)) ?_)
    (refine Ent.trans (front_ent 7) ?_; refine Ent.trans (front_ent 7) ?_; refine Ent.trans (front_ent 4) ?_; refine Ent.trans (front_ent 7) ?_; refine Ent.trans (front_ent 5) ?_; refine Ent.trans (front_ent 7) ?_; refine Ent.trans (front_ent 6) ?_; refine Ent.trans (front_ent 7) ?_)
    have e := kw_fold (w := w) (b := b) (v := ⟨.slice (some ⟨bs, 0, none⟩) r0.length scap, sv1, .slice (some ⟨ba, 0, none⟩) r0.length acap, av1, .slice (some ⟨bp, 0, none⟩) r0.length pcap, pv1⟩) (S := S) (Γ := Γ) (r0 := r') (r1 := r1)
    dsimp only [kwL, ksC, kaC', kpC'] at e
    rw [h1, h2] at e
    exact e
  have hva : (r0.flatMap raC ++ sla)[j]? = some (.int .i64 0) := by
    have e := fl1_get (f := raC) (g := fun x => .int .i64 x.ans) (fun _ => rfl) r0 j hlt sla
    rw [hj] at e; rw [e]; rw [ha]
  have hvp : (r0.flatMap rqC ++ slp)[j]? = some (.bool true) := by
    have e := fl1_get (f := rqC) (g := fun x => .bool x.pend) (fun _ => rfl) r0 j hlt slp
    rw [hj] at e; rw [e]; rw [hp]
  refine ex_seq (rg_start_s (rg_boxAgg rfl fun bx => ?_))
  repeat (first|refine zA rfl ?_|refine zB rfl rfl rfl ?_|refine zD rfl ?_|refine zE rfl ?_|refine zF rfl ?_|refine zG rfl ?_|refine zP rfl ?_|refine zQ ?_|refine zR ?_|refine zS ?_|refine zU rfl ?_|refine zV rfl ?_|refine yC ?_)
  rw [show IntKind.wrap .i64 (IntKind.wrap .i64 ((j : Int) + 1) - 1) = j from by rw [rwrap (x := (j : Int) + 1) (by omega), rwrap (by omega)]; omega]
  refine rg_caseG rfl rfl (fun g => absurd (of_decide_eq_true g) (by omega)) (fun _ => ?_)
  repeat (first|refine zA rfl ?_|refine zC rfl ?_|refine zE rfl ?_)
  refine rg_indexArr rfl rfl (by decide) ?_
  rw [show (0 + 1 + Int.toNat 0 * 1 : Nat) = 1 from rfl]
  repeat (first|refine zA rfl ?_|refine zB rfl rfl rfl ?_|refine zF rfl ?_|refine zK rfl rfl ?_|refine zZ rfl ?_)
  refine rg_caseG rfl rfl (fun g => absurd (of_decide_eq_true g) (by omega)) (fun _ => ?_)
  repeat (first|refine zA rfl ?_|refine zC rfl ?_|refine zE rfl ?_)
  refine rg_indexArr rfl rfl (by decide) ?_
  rw [show (0 + 3 + Int.toNat 0 * 1 : Nat) = 3 from rfl]
  repeat (first|refine zA rfl ?_|refine zF rfl ?_)
  refine rg_indexSl rfl rfl ⟨by omega, by omega⟩ ?_
  rw [Int.toNat_natCast, Nat.mul_one j, Nat.zero_add j]
  refine rg_load rfl ?_ hva
  repeat (first|refine zA rfl ?_|refine zB rfl rfl rfl ?_|refine zC rfl ?_|refine zE rfl ?_|refine zK rfl rfl ?_)
  refine rg_indexArr rfl rfl (by decide) ?_
  rw [show (0 + 5 + Int.toNat 0 * 1 : Nat) = 5 from rfl]
  repeat (first|refine zA rfl ?_|refine zF rfl ?_)
  refine rg_indexSl rfl rfl ⟨by omega, by omega⟩ ?_
  rw [Int.toNat_natCast, Nat.mul_one j, Nat.zero_add j]
  refine rg_load rfl ?_ hvp
  repeat (first|refine zA rfl ?_|refine zC rfl ?_|refine zE rfl ?_|refine zJ rfl ?_|refine zK rfl rfl ?_|refine zQ ?_|refine zR ?_|refine zS ?_|refine zV rfl ?_|refine yB ?_)
  refine rg_indexArr rfl rfl (by decide) ?_
  rw [show (0 + 5 + Int.toNat 0 * 1 : Nat) = 5 from rfl]
  repeat (first|refine zA rfl ?_|refine zF rfl ?_)
  refine rg_indexSl rfl rfl ⟨by omega, by omega⟩ ?_
  rw [Int.toNat_natCast, Nat.mul_one j, Nat.zero_add j]
  haveI := fl_upd (f := unp) (h := rqC) rqC_len slp r0 j y hjj
  refine rg_store rfl rfl ?_
  repeat (first|refine zA rfl ?_|refine zC rfl ?_|refine zD rfl ?_|refine zF rfl ?_|refine zQ ?_|refine zR ?_|refine zS ?_)
  (refine Rg.front 7 ?_; refine Rg.front 7 ?_; refine Rg.front 7 ?_; refine Rg.front 7 ?_; refine Rg.front 7 ?_; refine Rg.front 7 ?_; refine Rg.front 7 ?_; refine Rg.front 7 ?_; refine Rg.front 8 ?_)
  refine rg_call rfl (Look0_bg b S B _ ok hB) ?_
  rintro _ D ⟨la, lc, rfl, hE⟩
  refine ⟨.inl rfl, Rg.ent hE ?_⟩
  unfold lookL
  rw [hopn]
  repeat (first|refine zA rfl ?_|refine zB rfl rfl rfl ?_|refine zE rfl ?_|refine zF rfl ?_|refine zG rfl ?_|refine zI rfl rfl ?_|refine zJ rfl ?_|refine zK rfl rfl ?_|refine zO rfl rfl ?_|refine zQ ?_|refine zR ?_|refine zS ?_|refine zW fun bl=>?_)
  (refine Ex.front 2 ?_; refine Ex.front 10 ?_; refine Ex.front 10 ?_; refine Ex.front 10 ?_; refine Ex.front 10 ?_; refine Ex.front 10 ?_; refine Ex.front 10 ?_; refine Ex.front 10 ?_; refine Ex.front 10 ?_; refine Ex.front 10 ?_; refine Ex.front 10 ?_)
  refine ex_rete ret Try.func24 rfl (Ent.drop (Ent.drop (Ent.drop (Ent.refl _)))) ⟨rfl, ?_⟩
  have e := fin (updR unp r0 j) (updR_len _ _ _) (fl_same (f := unp) (h := rpC) (fun _ => rfl) r0 j)
  rw [fl_same (f := unp) (h := raC) (fun _ => rfl) r0 j] at e
  exact e

set_option maxHeartbeats 4000000 in
theorem took6_1 (w : Nat) (S : Bg) (r0 r1 : List Rec) (n : Int) (p : Pk) (B : Nat) (Γ : List Ch) (ok : BgOk B S) (hB : B < 100000000) (j : Nat) (y : Rec) (hjj : r1[j]? = some y) (hl : r1.length < 100000000) (hp : y.pend = true) (ha : y.ans = 0) (hopn : S.s1.hd.opn = false) :
    CallsX Try.prog 24 #[ptrV w, .int .i64 1, stV ⟨6, (j : Int) + 1, p⟩, .int .u64 n] (.pr (KwAt w S r0 r1) :: Γ) (fun v Δ => v = .bool true ∧ Ent Δ (.pr (KwAt w S r0 (updR unp r1 j)) :: Γ)) := by
  have hlt : j < r1.length := lt_some hjj
  have hj : r1[j] = y := by rw [List.getElem?_eq_getElem hlt] at hjj; exact Option.some.inj hjj
  refine CallsX.open_ kw_open fun z _ => ?_
  obtain ⟨b, v⟩ := z
  obtain ⟨sv0, sv1, av0, av1, pv0, pv1⟩ := v
  dsimp only [kwL]
  refine calls_of_body (args := [ptrV w, .int .i64 1, stV ⟨6, (j : Int) + 1, p⟩, .int .u64 n]) Try.func24 rfl Try.ntmps24 fun X cs ret => ?_
  (refine Ex.front 2 ?_)
  refine ex_slp (p := true) (fun _ _ h => absurd h (by omega)) (fun bs scap sls hs hzs => ?_)
  subst hs
  (refine Ex.front 4 ?_)
  refine ex_slp (p := true) (fun _ _ h => absurd h (by omega)) (fun ba acap sla hs hza => ?_)
  subst hs
  (refine Ex.front 6 ?_)
  refine ex_slp (p := true) (fun _ _ h => absurd h (by omega)) (fun bp pcap slp hs hzp => ?_)
  subst hs
  have fin : ∀ r' : List Rec, r'.length = r1.length → r'.flatMap rpC = r1.flatMap rpC → Ent (.pt bp true (.cells ⟨r'.flatMap rqC ++ slp⟩ 4 (0, 0)) :: .pt ba true (.cells ⟨r'.flatMap raC ++ sla⟩ 3 (0, 0)) :: .pt bs true (.cells ⟨r1.flatMap rpC ++ sls⟩ 49 (0, 0)) ::
      kwC w b ⟨sv0, .slice (some ⟨bs, 0, none⟩) r1.length scap, av0, .slice (some ⟨ba, 0, none⟩) r1.length acap, pv0, .slice (some ⟨bp, 0, none⟩) r1.length pcap⟩ :: ksC sv0 r0 :: kaC' av0 r0 :: kpC' pv0 r0 :: .pr (BgAt b S) :: Γ) (.pr (KwAt w S r0 r') :: Γ) := fun r' h1 h2 => by
    refine Ent.trans (EntR.e (slp_fold (m := 1) (len := r1.length) bp pcap slp ⟨hzp.1, by rw [flat_len rqC_len, h1], hzp.2.2⟩)) ?_
    refine Ent.trans (front_ent 1) (Ent.trans (EntR.e (slp_fold (m := 1) (len := r1.length) ba acap sla ⟨hza.1, by rw [flat_len raC_len, h1], hza.2.2⟩)) ?_)
    refine Ent.trans (front_ent 2) (Ent.trans (EntR.e (slp_fold bs scap sls hzs)) ?_)
    (refine Ent.trans (front_ent 7) ?_; refine Ent.trans (front_ent 3) ?_; refine Ent.trans (front_ent 7) ?_; refine Ent.trans (front_ent 4) ?_; refine Ent.trans (front_ent 7) ?_; refine Ent.trans (front_ent 5) ?_; refine Ent.trans (front_ent 7) ?_; refine Ent.trans (front_ent 7) ?_)
    have e := kw_fold (w := w) (b := b) (v := ⟨sv0, .slice (some ⟨bs, 0, none⟩) r1.length scap, av0, .slice (some ⟨ba, 0, none⟩) r1.length acap, pv0, .slice (some ⟨bp, 0, none⟩) r1.length pcap⟩) (S := S) (Γ := Γ) (r0 := r0) (r1 := r')
    dsimp only [kwL, ksC, kaC', kpC'] at e
    rw [h1, h2] at e
    exact e
  have hva : (r1.flatMap raC ++ sla)[j]? = some (.int .i64 0) := by
    have e := fl1_get (f := raC) (g := fun x => .int .i64 x.ans) (fun _ => rfl) r1 j hlt sla
    rw [hj] at e; rw [e]; rw [ha]
  have hvp : (r1.flatMap rqC ++ slp)[j]? = some (.bool true) := by
    have e := fl1_get (f := rqC) (g := fun x => .bool x.pend) (fun _ => rfl) r1 j hlt slp
    rw [hj] at e; rw [e]; rw [hp]
  refine ex_seq (rg_start_s (rg_boxAgg rfl fun bx => ?_))
  repeat (first|refine zA rfl ?_|refine zB rfl rfl rfl ?_|refine zD rfl ?_|refine zE rfl ?_|refine zF rfl ?_|refine zG rfl ?_|refine zP rfl ?_|refine zQ ?_|refine zR ?_|refine zS ?_|refine zU rfl ?_|refine zV rfl ?_|refine yB ?_|refine yC ?_)
  rw [show IntKind.wrap .i64 (IntKind.wrap .i64 ((j : Int) + 1) - 1) = j from by rw [rwrap (x := (j : Int) + 1) (by omega), rwrap (by omega)]; omega]
  refine rg_caseG rfl rfl (fun g => absurd (of_decide_eq_true g) (by omega)) (fun _ => ?_)
  repeat (first|refine zA rfl ?_|refine zC rfl ?_|refine zE rfl ?_)
  refine rg_indexArr rfl rfl (by decide) ?_
  rw [show (0 + 1 + Int.toNat 1 * 1 : Nat) = 2 from rfl]
  repeat (first|refine zA rfl ?_|refine zB rfl rfl rfl ?_|refine zF rfl ?_|refine zK rfl rfl ?_|refine zZ rfl ?_)
  refine rg_caseG rfl rfl (fun g => absurd (of_decide_eq_true g) (by omega)) (fun _ => ?_)
  repeat (first|refine zA rfl ?_|refine zC rfl ?_|refine zE rfl ?_)
  refine rg_indexArr rfl rfl (by decide) ?_
  rw [show (0 + 3 + Int.toNat 1 * 1 : Nat) = 4 from rfl]
  repeat (first|refine zA rfl ?_|refine zF rfl ?_)
  refine rg_indexSl rfl rfl ⟨by omega, by omega⟩ ?_
  rw [Int.toNat_natCast, Nat.mul_one j, Nat.zero_add j]
  refine rg_load rfl ?_ hva
  repeat (first|refine zA rfl ?_|refine zB rfl rfl rfl ?_|refine zC rfl ?_|refine zE rfl ?_|refine zK rfl rfl ?_)
  refine rg_indexArr rfl rfl (by decide) ?_
  rw [show (0 + 5 + Int.toNat 1 * 1 : Nat) = 6 from rfl]
  repeat (first|refine zA rfl ?_|refine zF rfl ?_)
  refine rg_indexSl rfl rfl ⟨by omega, by omega⟩ ?_
  rw [Int.toNat_natCast, Nat.mul_one j, Nat.zero_add j]
  refine rg_load rfl ?_ hvp
  repeat (first|refine zA rfl ?_|refine zC rfl ?_|refine zE rfl ?_|refine zJ rfl ?_|refine zK rfl rfl ?_|refine zQ ?_|refine zR ?_|refine zS ?_|refine zV rfl ?_|refine yB ?_)
  refine rg_indexArr rfl rfl (by decide) ?_
  rw [show (0 + 5 + Int.toNat 1 * 1 : Nat) = 6 from rfl]
  repeat (first|refine zA rfl ?_|refine zF rfl ?_)
  refine rg_indexSl rfl rfl ⟨by omega, by omega⟩ ?_
  rw [Int.toNat_natCast, Nat.mul_one j, Nat.zero_add j]
  haveI := fl_upd (f := unp) (h := rqC) rqC_len slp r1 j y hjj
  refine rg_store rfl rfl ?_
  repeat (first|refine zA rfl ?_|refine zC rfl ?_|refine zD rfl ?_|refine zF rfl ?_|refine zQ ?_|refine zR ?_|refine zS ?_)
  (refine Rg.front 7 ?_; refine Rg.front 7 ?_; refine Rg.front 7 ?_; refine Rg.front 7 ?_; refine Rg.front 7 ?_; refine Rg.front 7 ?_; refine Rg.front 7 ?_; refine Rg.front 7 ?_; refine Rg.front 8 ?_)
  refine rg_call rfl (Look1_bg b S B _ ok hB) ?_
  rintro _ D ⟨la, lc, rfl, hE⟩
  refine ⟨.inl rfl, Rg.ent hE ?_⟩
  unfold lookL
  rw [hopn]
  repeat (first|refine zA rfl ?_|refine zB rfl rfl rfl ?_|refine zE rfl ?_|refine zF rfl ?_|refine zG rfl ?_|refine zI rfl rfl ?_|refine zJ rfl ?_|refine zK rfl rfl ?_|refine zO rfl rfl ?_|refine zQ ?_|refine zR ?_|refine zS ?_|refine zW fun bl=>?_)
  (refine Ex.front 2 ?_; refine Ex.front 10 ?_; refine Ex.front 10 ?_; refine Ex.front 10 ?_; refine Ex.front 10 ?_; refine Ex.front 10 ?_; refine Ex.front 10 ?_; refine Ex.front 10 ?_; refine Ex.front 10 ?_; refine Ex.front 10 ?_; refine Ex.front 10 ?_)
  refine ex_rete ret Try.func24 rfl (Ent.drop (Ent.drop (Ent.drop (Ent.refl _)))) ⟨rfl, ?_⟩
  have e := fin (updR unp r1 j) (updR_len _ _ _) (fl_same (f := unp) (h := rpC) (fun _ => rfl) r1 j)
  rw [fl_same (f := unp) (h := raC) (fun _ => rfl) r1 j] at e
  exact e

set_option maxHeartbeats 4000000 in
theorem took7_1 (w : Nat) (S : Bg) (r0 r1 : List Rec) (n : Int) (p : Pk) (B : Nat) (Γ : List Ch) (ok : BgOk B S) (hB : B < 100000000) (j : Nat) (y : Rec) (hjj : r1[j]? = some y) (hl : r1.length < 100000000) (hp : y.pend = true) (ha : y.ans = 0) (hopn : S.s1.hd.opn = false) :
    CallsX Try.prog 24 #[ptrV w, .int .i64 1, stV ⟨7, (j : Int) + 1, p⟩, .int .u64 n] (.pr (KwAt w S r0 r1) :: Γ) (fun v Δ => v = .bool true ∧ Ent Δ (.pr (KwAt w S r0 (updR unp r1 j)) :: Γ)) := by
  have hlt : j < r1.length := lt_some hjj
  have hj : r1[j] = y := by rw [List.getElem?_eq_getElem hlt] at hjj; exact Option.some.inj hjj
  refine CallsX.open_ kw_open fun z _ => ?_
  obtain ⟨b, v⟩ := z
  obtain ⟨sv0, sv1, av0, av1, pv0, pv1⟩ := v
  dsimp only [kwL]
  refine calls_of_body (args := [ptrV w, .int .i64 1, stV ⟨7, (j : Int) + 1, p⟩, .int .u64 n]) Try.func24 rfl Try.ntmps24 fun X cs ret => ?_
  (refine Ex.front 2 ?_)
  refine ex_slp (p := true) (fun _ _ h => absurd h (by omega)) (fun bs scap sls hs hzs => ?_)
  subst hs
  (refine Ex.front 4 ?_)
  refine ex_slp (p := true) (fun _ _ h => absurd h (by omega)) (fun ba acap sla hs hza => ?_)
  subst hs
  (refine Ex.front 6 ?_)
  refine ex_slp (p := true) (fun _ _ h => absurd h (by omega)) (fun bp pcap slp hs hzp => ?_)
  subst hs
  have fin : ∀ r' : List Rec, r'.length = r1.length → r'.flatMap rpC = r1.flatMap rpC → Ent (.pt bp true (.cells ⟨r'.flatMap rqC ++ slp⟩ 4 (0, 0)) :: .pt ba true (.cells ⟨r'.flatMap raC ++ sla⟩ 3 (0, 0)) :: .pt bs true (.cells ⟨r1.flatMap rpC ++ sls⟩ 49 (0, 0)) ::
      kwC w b ⟨sv0, .slice (some ⟨bs, 0, none⟩) r1.length scap, av0, .slice (some ⟨ba, 0, none⟩) r1.length acap, pv0, .slice (some ⟨bp, 0, none⟩) r1.length pcap⟩ :: ksC sv0 r0 :: kaC' av0 r0 :: kpC' pv0 r0 :: .pr (BgAt b S) :: Γ) (.pr (KwAt w S r0 r') :: Γ) := fun r' h1 h2 => by
    refine Ent.trans (EntR.e (slp_fold (m := 1) (len := r1.length) bp pcap slp ⟨hzp.1, by rw [flat_len rqC_len, h1], hzp.2.2⟩)) ?_
    refine Ent.trans (front_ent 1) (Ent.trans (EntR.e (slp_fold (m := 1) (len := r1.length) ba acap sla ⟨hza.1, by rw [flat_len raC_len, h1], hza.2.2⟩)) ?_)
    refine Ent.trans (front_ent 2) (Ent.trans (EntR.e (slp_fold bs scap sls hzs)) ?_)
    (refine Ent.trans (front_ent 7) ?_; refine Ent.trans (front_ent 3) ?_; refine Ent.trans (front_ent 7) ?_; refine Ent.trans (front_ent 4) ?_; refine Ent.trans (front_ent 7) ?_; refine Ent.trans (front_ent 5) ?_; refine Ent.trans (front_ent 7) ?_; refine Ent.trans (front_ent 7) ?_)
    have e := kw_fold (w := w) (b := b) (v := ⟨sv0, .slice (some ⟨bs, 0, none⟩) r1.length scap, av0, .slice (some ⟨ba, 0, none⟩) r1.length acap, pv0, .slice (some ⟨bp, 0, none⟩) r1.length pcap⟩) (S := S) (Γ := Γ) (r0 := r0) (r1 := r')
    dsimp only [kwL, ksC, kaC', kpC'] at e
    rw [h1, h2] at e
    exact e
  have hva : (r1.flatMap raC ++ sla)[j]? = some (.int .i64 0) := by
    have e := fl1_get (f := raC) (g := fun x => .int .i64 x.ans) (fun _ => rfl) r1 j hlt sla
    rw [hj] at e; rw [e]; rw [ha]
  have hvp : (r1.flatMap rqC ++ slp)[j]? = some (.bool true) := by
    have e := fl1_get (f := rqC) (g := fun x => .bool x.pend) (fun _ => rfl) r1 j hlt slp
    rw [hj] at e; rw [e]; rw [hp]
  refine ex_seq (rg_start_s (rg_boxAgg rfl fun bx => ?_))
  repeat (first|refine zA rfl ?_|refine zB rfl rfl rfl ?_|refine zD rfl ?_|refine zE rfl ?_|refine zF rfl ?_|refine zG rfl ?_|refine zP rfl ?_|refine zQ ?_|refine zR ?_|refine zS ?_|refine zU rfl ?_|refine zV rfl ?_|refine yC ?_)
  rw [show IntKind.wrap .i64 (IntKind.wrap .i64 ((j : Int) + 1) - 1) = j from by rw [rwrap (x := (j : Int) + 1) (by omega), rwrap (by omega)]; omega]
  refine rg_caseG rfl rfl (fun g => absurd (of_decide_eq_true g) (by omega)) (fun _ => ?_)
  repeat (first|refine zA rfl ?_|refine zC rfl ?_|refine zE rfl ?_)
  refine rg_indexArr rfl rfl (by decide) ?_
  rw [show (0 + 1 + Int.toNat 1 * 1 : Nat) = 2 from rfl]
  repeat (first|refine zA rfl ?_|refine zB rfl rfl rfl ?_|refine zF rfl ?_|refine zK rfl rfl ?_|refine zZ rfl ?_)
  refine rg_caseG rfl rfl (fun g => absurd (of_decide_eq_true g) (by omega)) (fun _ => ?_)
  repeat (first|refine zA rfl ?_|refine zC rfl ?_|refine zE rfl ?_)
  refine rg_indexArr rfl rfl (by decide) ?_
  rw [show (0 + 3 + Int.toNat 1 * 1 : Nat) = 4 from rfl]
  repeat (first|refine zA rfl ?_|refine zF rfl ?_)
  refine rg_indexSl rfl rfl ⟨by omega, by omega⟩ ?_
  rw [Int.toNat_natCast, Nat.mul_one j, Nat.zero_add j]
  refine rg_load rfl ?_ hva
  repeat (first|refine zA rfl ?_|refine zB rfl rfl rfl ?_|refine zC rfl ?_|refine zE rfl ?_|refine zK rfl rfl ?_)
  refine rg_indexArr rfl rfl (by decide) ?_
  rw [show (0 + 5 + Int.toNat 1 * 1 : Nat) = 6 from rfl]
  repeat (first|refine zA rfl ?_|refine zF rfl ?_)
  refine rg_indexSl rfl rfl ⟨by omega, by omega⟩ ?_
  rw [Int.toNat_natCast, Nat.mul_one j, Nat.zero_add j]
  refine rg_load rfl ?_ hvp
  repeat (first|refine zA rfl ?_|refine zC rfl ?_|refine zE rfl ?_|refine zJ rfl ?_|refine zK rfl rfl ?_|refine zQ ?_|refine zR ?_|refine zS ?_|refine zV rfl ?_|refine yB ?_)
  refine rg_indexArr rfl rfl (by decide) ?_
  rw [show (0 + 5 + Int.toNat 1 * 1 : Nat) = 6 from rfl]
  repeat (first|refine zA rfl ?_|refine zF rfl ?_)
  refine rg_indexSl rfl rfl ⟨by omega, by omega⟩ ?_
  rw [Int.toNat_natCast, Nat.mul_one j, Nat.zero_add j]
  haveI := fl_upd (f := unp) (h := rqC) rqC_len slp r1 j y hjj
  refine rg_store rfl rfl ?_
  repeat (first|refine zA rfl ?_|refine zC rfl ?_|refine zD rfl ?_|refine zF rfl ?_|refine zQ ?_|refine zR ?_|refine zS ?_)
  (refine Rg.front 7 ?_; refine Rg.front 7 ?_; refine Rg.front 7 ?_; refine Rg.front 7 ?_; refine Rg.front 7 ?_; refine Rg.front 7 ?_; refine Rg.front 7 ?_; refine Rg.front 7 ?_; refine Rg.front 8 ?_)
  refine rg_call rfl (Look1_bg b S B _ ok hB) ?_
  rintro _ D ⟨la, lc, rfl, hE⟩
  refine ⟨.inl rfl, Rg.ent hE ?_⟩
  unfold lookL
  rw [hopn]
  repeat (first|refine zA rfl ?_|refine zB rfl rfl rfl ?_|refine zE rfl ?_|refine zF rfl ?_|refine zG rfl ?_|refine zI rfl rfl ?_|refine zJ rfl ?_|refine zK rfl rfl ?_|refine zO rfl rfl ?_|refine zQ ?_|refine zR ?_|refine zS ?_|refine zW fun bl=>?_)
  (refine Ex.front 2 ?_; refine Ex.front 10 ?_; refine Ex.front 10 ?_; refine Ex.front 10 ?_; refine Ex.front 10 ?_; refine Ex.front 10 ?_; refine Ex.front 10 ?_; refine Ex.front 10 ?_; refine Ex.front 10 ?_; refine Ex.front 10 ?_; refine Ex.front 10 ?_)
  refine ex_rete ret Try.func24 rfl (Ent.drop (Ent.drop (Ent.drop (Ent.refl _)))) ⟨rfl, ?_⟩
  have e := fin (updR unp r1 j) (updR_len _ _ _) (fl_same (f := unp) (h := rpC) (fun _ => rfl) r1 j)
  rw [fl_same (f := unp) (h := raC) (fun _ => rfl) r1 j] at e
  exact e

set_option maxHeartbeats 4000000 in
theorem tookX_0 (w : Nat) (S : Bg) (r0 r1 : List Rec) (n : Int) (x : Stp) (Γ : List Ch) (h1 : x.kind ≠ 1) (h4 : x.kind ≠ 4) (h5 : x.kind ≠ 5) (h6 : x.kind ≠ 6) (h7 : x.kind ≠ 7) :
    CallsX Try.prog 24 #[ptrV w, .int .i64 0, stV x, .int .u64 n] (.pr (KwAt w S r0 r1) :: Γ) (fun v Δ => v = .bool true ∧ Ent Δ (.pr (KwAt w S r0 r1) :: Γ)) := by
  refine calls_of_body (args := [ptrV w, .int .i64 0, stV x, .int .u64 n]) Try.func24 rfl Try.ntmps24 fun X cs ret => ?_
  repeat (first|refine zB rfl rfl rfl ?_|refine zD rfl ?_|refine zE rfl ?_|refine zF rfl ?_|refine zG rfl ?_|refine zP rfl ?_|refine zQ ?_|refine zR ?_|refine zS ?_|refine zX rfl fun bl=>?_|refine yC ?_)
  rw [decide_eq_false h1]
  repeat (first|refine zB rfl rfl rfl ?_|refine zG rfl ?_|refine zQ ?_|refine zR ?_|refine zS ?_|refine zV rfl ?_)
  rw [decide_eq_false h4]
  repeat (first|refine zB rfl rfl rfl ?_|refine zG rfl ?_|refine zQ ?_|refine zR ?_|refine zS ?_|refine zV rfl ?_)
  rw [decide_eq_false h5]
  repeat (first|refine zB rfl rfl rfl ?_|refine zG rfl ?_|refine zQ ?_|refine zR ?_|refine zS ?_|refine zV rfl ?_)
  rw [decide_eq_false h6]
  repeat (first|refine zB rfl rfl rfl ?_|refine zG rfl ?_|refine zQ ?_|refine zS ?_|refine zV rfl ?_)
  rw [decide_eq_false h7]
  repeat (first|refine zG rfl ?_|refine zQ ?_|refine zR ?_|refine zS ?_|refine zV rfl ?_|refine yB ?_|refine yD ?_)
  exact ex_rete ret Try.func24 rfl (Ent.drop (Ent.refl _)) ⟨rfl, Ent.refl _⟩

set_option maxHeartbeats 4000000 in
theorem tookX_1 (w : Nat) (S : Bg) (r0 r1 : List Rec) (n : Int) (x : Stp) (Γ : List Ch) (h1 : x.kind ≠ 1) (h4 : x.kind ≠ 4) (h5 : x.kind ≠ 5) (h6 : x.kind ≠ 6) (h7 : x.kind ≠ 7) :
    CallsX Try.prog 24 #[ptrV w, .int .i64 1, stV x, .int .u64 n] (.pr (KwAt w S r0 r1) :: Γ) (fun v Δ => v = .bool true ∧ Ent Δ (.pr (KwAt w S r0 r1) :: Γ)) := by
  refine calls_of_body (args := [ptrV w, .int .i64 1, stV x, .int .u64 n]) Try.func24 rfl Try.ntmps24 fun X cs ret => ?_
  repeat (first|refine zB rfl rfl rfl ?_|refine zD rfl ?_|refine zE rfl ?_|refine zF rfl ?_|refine zG rfl ?_|refine zP rfl ?_|refine zQ ?_|refine zR ?_|refine zS ?_|refine zX rfl fun bl=>?_|refine yC ?_)
  rw [decide_eq_false h1]
  repeat (first|refine zB rfl rfl rfl ?_|refine zG rfl ?_|refine zQ ?_|refine zR ?_|refine zS ?_|refine zV rfl ?_)
  rw [decide_eq_false h4]
  repeat (first|refine zB rfl rfl rfl ?_|refine zG rfl ?_|refine zQ ?_|refine zR ?_|refine zS ?_|refine zV rfl ?_)
  rw [decide_eq_false h5]
  repeat (first|refine zB rfl rfl rfl ?_|refine zG rfl ?_|refine zQ ?_|refine zR ?_|refine zS ?_|refine zV rfl ?_)
  rw [decide_eq_false h6]
  repeat (first|refine zB rfl rfl rfl ?_|refine zG rfl ?_|refine zQ ?_|refine zS ?_|refine zV rfl ?_)
  rw [decide_eq_false h7]
  repeat (first|refine zG rfl ?_|refine zQ ?_|refine zR ?_|refine zS ?_|refine zV rfl ?_|refine yB ?_|refine yD ?_)
  exact ex_rete ret Try.func24 rfl (Ent.drop (Ent.refl _)) ⟨rfl, Ent.refl _⟩

end Go.Br
