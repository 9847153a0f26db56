/-
  Lemmas towards the law, proved without conditions of their own: THE LAW: look; THE LAW: the world of a script: bridges, lists that were handed out.
-/
import Derived.Test.YtedaknlacigbhaaPk23
namespace Go.Br
open Go Go.Lx Go.Proofs
open Go.Lx renaming rg_move → zA, rg_int → zB, rg_nilCheck → zC, rg_fieldAddr0 → zD, rg_fieldAddr → zE, rg_load → zF, rg_assign → zG, rg_loadAgg → zH, rg_extract → zI, rg_not → zJ, rg_pick → zK, rg_off → zL, rg_offU → zM, rg_store → zN, rg_storeAgg → zO, rg_convInt → zP, rg_done → zQ, ex_seq → zR, rg_start_s → zS, rg_start_d → zT, ex_cond_true → zU, ex_cond_false → zV, rg_alloc → zW, rg_boxAgg → zX, rg_build → zY, rg_lenSl → zZ, rg_lenMap → yA, ex_skip → yB, ex_block → yC, ex_inBlock → yD, ex_exit → yE, rg_caseG → yZ
set_option maxRecDepth 100000

abbrev prV (x m : Nat) : Value := .agg ⟨[ptrV x, ptrV m]⟩

theorem qV_map (l : List Pk) : l.map qV = (l.map (·.seq)).map (Value.int .u64) := by simp [List.map_map, Function.comp_def]

theorem map_len {α β : Type} {f : α → β} {l : List α} : (l.map f).length = l.length := List.length_map f

set_option maxHeartbeats 4000000 in
theorem look0_law (w x m : Nat) (bs lv ev : Value) (lx : List Value) (nl : Nat) (S : Bg) (B : Nat) (Γ : List Ch) (ok : BgOk B S) (hB : B < 100000000) (hnl : nl < 1000000000) :
    CallsX Try.prog 54 #[ptrV w, prV x m, .int .i64 0, .bool true] (wdC w bs lv ev false :: .pr (SlV 53 1 lv lx nl) :: .pr (BgAt x S) :: .pr (ModAt m S) :: Γ)
      (fun v Δ => ∃ (lv' l' : Value) (k : Nat), v = .bool true ∧ oneC l' = true ∧ k < 1000000000 ∧ Ent Δ (wdC w bs lv' ev false :: .pr (SlV 53 1 lv' (lx ++ [l']) (nl + 1)) :: .pr (SlV 36 1 l' (List.replicate k (markV nl)) k) :: .pr (BgAt x S) :: .pr (ModAt m S) :: Γ)) := by
  have hcnt := ok.ok0.count
  have hhl := heads_len ok.ok1 hB
  have hk := ok.k0
  refine CallsX.ent (front_ent 3) (CallsX.open_ mod_open fun z _ => ?_)
  obtain ⟨c0, c1⟩ := z
  dsimp only
  refine calls_of_body (args := [ptrV w, prV x m, .int .i64 0, .bool true]) Try.func54 rfl Try.ntmps54 fun X cs ret => ?_
  refine ex_seq (rg_start_s (rg_boxAgg rfl fun b1 => ?_))
  repeat (first|refine zA rfl ?_|refine zD rfl ?_|refine zF rfl ?_|refine zG rfl ?_|refine zQ ?_|refine zR ?_|refine zS ?_)
  (refine Rg.front 5 ?_; refine Rg.front 5 ?_; refine Rg.front 2 ?_; refine Rg.front 5 ?_; refine Rg.front 5 ?_; refine Rg.front 5 ?_; refine Rg.front 6 ?_)
  refine rg_call rfl (Look0_bg x S B _ ok hB) ?_
  rintro _ D ⟨pa, pc, rfl, hE⟩
  refine ⟨.inl rfl, Rg.ent hE ?_⟩
  repeat (first|refine zA rfl ?_|refine zC rfl ?_|refine zD rfl ?_|refine zE rfl ?_|refine zF rfl ?_|refine zG rfl ?_|refine zI rfl rfl ?_|refine zO rfl rfl ?_|refine zQ ?_|refine zR ?_|refine zS ?_|refine zU rfl ?_|refine zW fun bl=>?_)
  refine rg_indexArr rfl rfl (by decide) ?_
  rw [show (0 + Int.toNat 0 * 1 : Nat) = 0 from rfl]
  repeat refine zF rfl ?_
  (refine Rg.front 9 ?_; refine Rg.front 9 ?_; refine Rg.front 9 ?_; refine Rg.front 9 ?_; refine Rg.front 8 ?_; refine Rg.front 8 ?_; refine Rg.front 8 ?_; refine Rg.front 8 ?_; refine Rg.front 8 ?_; refine Rg.front 9 ?_)
  refine rg_call rfl (rlook_ok c0 S.s0 (knOf S.s0 S.s1) B _ ok.ok0 hB (knOf_ok (s := S.s0) ok.ok1 hk).2 (by omega)) ?_
  rintro _ D ⟨qa, qc, rfl, hE⟩
  refine ⟨.inl rfl, Rg.ent hE ?_⟩
  repeat (first|refine zE rfl ?_|refine zF rfl ?_|refine zG rfl ?_|refine zO rfl rfl ?_|refine zQ ?_|refine zR ?_|refine zS ?_)
  (refine Rg.front 10 ?_; refine Rg.front 10 ?_; refine Rg.front 10 ?_; refine Rg.front 10 ?_; refine Rg.front 10 ?_; refine Rg.front 10 ?_; refine Rg.front 9 ?_; refine Rg.front 9 ?_; refine Rg.front 9 ?_; refine Rg.front 9 ?_; refine Rg.front 10 ?_)
  rw [qV_map, ← map_len (f := Pk.seq) (l := S.s0.hd.packets)]
  refine rg_callE rfl (same_ok true true _ _ (S.s0.hd.packets.map (·.seq)) _ (by rw [map_len]; omega)) ?_
  refine ⟨.inl rfl, ?_⟩
  repeat (first|refine zA rfl ?_|refine zB rfl rfl rfl ?_|refine zE rfl ?_|refine zF rfl ?_|refine zG rfl ?_|refine zK rfl rfl ?_|refine zQ ?_|refine zR ?_|refine zS ?_)
  (refine Rg.front 8 ?_; refine Rg.front 8 ?_; refine Rg.front 8 ?_; refine Rg.front 8 ?_; refine Rg.front 8 ?_; refine Rg.front 8 ?_; refine Rg.front 8 ?_; refine Rg.front 8 ?_; refine Rg.front 8 ?_; refine Rg.front 10 ?_; refine Rg.front 10 ?_)
  refine rg_call rfl (mine_ok w bs lv ev _ false _ lx _ nl _ (by rw [map_len]; omega) hnl) ?_
  rintro _ D ⟨lv', l', rfl, hone, hE⟩
  refine ⟨.inl rfl, Rg.ent hE ?_⟩
  repeat (first|refine zA rfl ?_|refine zB rfl rfl rfl ?_|refine zD rfl ?_|refine zF rfl ?_|refine zK rfl rfl ?_|refine zQ ?_|refine zR ?_|refine zS ?_)
  simp only [eq_self, decide_true]
  repeat (first|refine zA rfl ?_|refine zB rfl rfl rfl ?_|refine zE rfl ?_|refine zF rfl ?_|refine zK rfl rfl ?_)
  simp only [eq_self, decide_true]
  repeat (first|refine zA rfl ?_|refine zB rfl rfl rfl ?_|refine zE rfl ?_|refine zF rfl ?_|refine zK rfl rfl ?_)
  simp only [eq_self, decide_true]
  repeat (first|refine zE rfl ?_|refine zF rfl ?_)
  refine rg_eqBool rfl rfl ?_
  simp only [beq_self_eq_true]
  repeat (first|refine zA rfl ?_|refine zB rfl rfl rfl ?_|refine zE rfl ?_|refine zF rfl ?_|refine zK rfl rfl ?_)
  simp only [eq_self, decide_true]
  repeat (first|refine zA rfl ?_|refine zB rfl rfl rfl ?_|refine zE rfl ?_|refine zF rfl ?_|refine zG rfl ?_|refine zK rfl rfl ?_|refine zQ ?_|refine zR ?_|refine zS ?_)
  simp only [eq_self, decide_true]
  repeat (first|refine zA rfl ?_|refine zB rfl rfl rfl ?_|refine zE rfl ?_|refine zF rfl ?_|refine zK rfl rfl ?_)
  simp only [eq_self, decide_true]
  repeat (first|refine zB rfl rfl rfl ?_|refine zE rfl ?_|refine zF rfl ?_|refine zG rfl ?_|refine zK rfl rfl ?_|refine zQ ?_)
  simp only [eq_self, decide_true]
  skip

  (refine Ex.front 9 ?_; refine Ex.front 5 ?_; refine Ex.front 9 ?_; refine Ex.front 9 ?_; refine Ex.front 6 ?_; refine Ex.front 6 ?_; refine Ex.front 6 ?_; refine Ex.front 10 ?_; refine Ex.front 10 ?_; refine Ex.front 10 ?_; refine Ex.front 10 ?_)
  refine ex_rete ret Try.func54 rfl (Ent.drop (Ent.drop (Ent.drop (Ent.drop (Ent.refl _))))) ⟨lv', l', (S.s0.hd.packets.map (·.seq)).length + 2, rfl, hone, ?_, ?_⟩
  · rw [map_len]; omega
  · exact Ent.cons (Ent.cons (Ent.cons (Ent.cons (EntR.e (mod_fold (S := S) c0 c1 rfl)))))

set_option maxHeartbeats 4000000 in
theorem look1_law (w x m : Nat) (bs lv ev : Value) (lx : List Value) (nl : Nat) (S : Bg) (B : Nat) (Γ : List Ch) (ok : BgOk B S) (hB : B < 100000000) (hnl : nl < 1000000000) :
    CallsX Try.prog 54 #[ptrV w, prV x m, .int .i64 1, .bool true] (wdC w bs lv ev false :: .pr (SlV 53 1 lv lx nl) :: .pr (BgAt x S) :: .pr (ModAt m S) :: Γ)
      (fun v Δ => ∃ (lv' l' : Value) (k : Nat), v = .bool true ∧ oneC l' = true ∧ k < 1000000000 ∧ Ent Δ (wdC w bs lv' ev false :: .pr (SlV 53 1 lv' (lx ++ [l']) (nl + 1)) :: .pr (SlV 36 1 l' (List.replicate k (markV nl)) k) :: .pr (BgAt x S) :: .pr (ModAt m S) :: Γ)) := by
  have hcnt := ok.ok1.count
  have hhl := heads_len ok.ok0 hB
  have hk := ok.k1
  refine CallsX.ent (front_ent 3) (CallsX.open_ mod_open fun z _ => ?_)
  obtain ⟨c0, c1⟩ := z
  dsimp only
  refine calls_of_body (args := [ptrV w, prV x m, .int .i64 1, .bool true]) Try.func54 rfl Try.ntmps54 fun X cs ret => ?_
  refine ex_seq (rg_start_s (rg_boxAgg rfl fun b1 => ?_))
  repeat (first|refine zA rfl ?_|refine zD rfl ?_|refine zF rfl ?_|refine zG rfl ?_|refine zQ ?_|refine zR ?_|refine zS ?_)
  (refine Rg.front 5 ?_; refine Rg.front 5 ?_; refine Rg.front 2 ?_; refine Rg.front 5 ?_; refine Rg.front 5 ?_; refine Rg.front 5 ?_; refine Rg.front 6 ?_)
  refine rg_call rfl (Look1_bg x S B _ ok hB) ?_
  rintro _ D ⟨pa, pc, rfl, hE⟩
  refine ⟨.inl rfl, Rg.ent hE ?_⟩
  repeat (first|refine zA rfl ?_|refine zC rfl ?_|refine zD rfl ?_|refine zE rfl ?_|refine zF rfl ?_|refine zG rfl ?_|refine zI rfl rfl ?_|refine zO rfl rfl ?_|refine zQ ?_|refine zR ?_|refine zS ?_|refine zU rfl ?_|refine zW fun bl=>?_)
  refine rg_indexArr rfl rfl (by decide) ?_
  rw [show (0 + Int.toNat 1 * 1 : Nat) = 1 from rfl]
  repeat refine zF rfl ?_
  (refine Rg.front 9 ?_; refine Rg.front 9 ?_; refine Rg.front 9 ?_; refine Rg.front 8 ?_; refine Rg.front 8 ?_; refine Rg.front 8 ?_; refine Rg.front 8 ?_; refine Rg.front 8 ?_; refine Rg.front 8 ?_; refine Rg.front 9 ?_)
  refine rg_call rfl (rlook_ok c1 S.s1 (knOf S.s1 S.s0) B _ ok.ok1 hB (knOf_ok (s := S.s1) ok.ok0 hk).2 (by omega)) ?_
  rintro _ D ⟨qa, qc, rfl, hE⟩
  refine ⟨.inl rfl, Rg.ent hE ?_⟩
  repeat (first|refine zE rfl ?_|refine zF rfl ?_|refine zG rfl ?_|refine zO rfl rfl ?_|refine zQ ?_|refine zR ?_|refine zS ?_)
  (refine Rg.front 10 ?_; refine Rg.front 10 ?_; refine Rg.front 10 ?_; refine Rg.front 10 ?_; refine Rg.front 10 ?_; refine Rg.front 10 ?_; refine Rg.front 9 ?_; refine Rg.front 9 ?_; refine Rg.front 9 ?_; refine Rg.front 9 ?_; refine Rg.front 10 ?_)
  rw [qV_map, ← map_len (f := Pk.seq) (l := S.s1.hd.packets)]
  refine rg_callE rfl (same_ok true true _ _ (S.s1.hd.packets.map (·.seq)) _ (by rw [map_len]; omega)) ?_
  refine ⟨.inl rfl, ?_⟩
  repeat (first|refine zA rfl ?_|refine zB rfl rfl rfl ?_|refine zE rfl ?_|refine zF rfl ?_|refine zG rfl ?_|refine zK rfl rfl ?_|refine zQ ?_|refine zR ?_|refine zS ?_)
  (refine Rg.front 8 ?_; refine Rg.front 8 ?_; refine Rg.front 8 ?_; refine Rg.front 8 ?_; refine Rg.front 8 ?_; refine Rg.front 8 ?_; refine Rg.front 8 ?_; refine Rg.front 8 ?_; refine Rg.front 8 ?_; refine Rg.front 10 ?_; refine Rg.front 10 ?_)
  refine rg_call rfl (mine_ok w bs lv ev _ false _ lx _ nl _ (by rw [map_len]; omega) hnl) ?_
  rintro _ D ⟨lv', l', rfl, hone, hE⟩
  refine ⟨.inl rfl, Rg.ent hE ?_⟩
  repeat (first|refine zA rfl ?_|refine zB rfl rfl rfl ?_|refine zD rfl ?_|refine zF rfl ?_|refine zK rfl rfl ?_|refine zQ ?_|refine zR ?_|refine zS ?_)
  simp only [eq_self, decide_true]
  repeat (first|refine zA rfl ?_|refine zB rfl rfl rfl ?_|refine zE rfl ?_|refine zF rfl ?_|refine zK rfl rfl ?_)
  simp only [eq_self, decide_true]
  repeat (first|refine zA rfl ?_|refine zB rfl rfl rfl ?_|refine zE rfl ?_|refine zF rfl ?_|refine zK rfl rfl ?_)
  simp only [eq_self, decide_true]
  repeat (first|refine zE rfl ?_|refine zF rfl ?_)
  refine rg_eqBool rfl rfl ?_
  simp only [beq_self_eq_true]
  repeat (first|refine zA rfl ?_|refine zB rfl rfl rfl ?_|refine zE rfl ?_|refine zF rfl ?_|refine zK rfl rfl ?_)
  simp only [eq_self, decide_true]
  repeat (first|refine zA rfl ?_|refine zB rfl rfl rfl ?_|refine zE rfl ?_|refine zF rfl ?_|refine zG rfl ?_|refine zK rfl rfl ?_|refine zQ ?_|refine zR ?_|refine zS ?_)
  simp only [eq_self, decide_true]
  repeat (first|refine zA rfl ?_|refine zB rfl rfl rfl ?_|refine zE rfl ?_|refine zF rfl ?_|refine zK rfl rfl ?_)
  simp only [eq_self, decide_true]
  repeat (first|refine zB rfl rfl rfl ?_|refine zE rfl ?_|refine zF rfl ?_|refine zG rfl ?_|refine zK rfl rfl ?_|refine zQ ?_)
  simp only [eq_self, decide_true]
  skip

  (refine Ex.front 4 ?_; refine Ex.front 9 ?_; refine Ex.front 9 ?_; refine Ex.front 9 ?_; refine Ex.front 6 ?_; refine Ex.front 6 ?_; refine Ex.front 6 ?_; refine Ex.front 10 ?_; refine Ex.front 10 ?_; refine Ex.front 10 ?_; refine Ex.front 10 ?_)
  refine ex_rete ret Try.func54 rfl (Ent.drop (Ent.drop (Ent.drop (Ent.drop (Ent.refl _))))) ⟨lv', l', (S.s1.hd.packets.map (·.seq)).length + 2, rfl, hone, ?_, ?_⟩
  · rw [map_len]; omega
  · exact Ent.cons (Ent.cons (Ent.cons (Ent.cons (EntR.e (mod_fold (S := S) c0 c1 rfl)))))

set_option maxHeartbeats 4000000 in
theorem lookX_law (w x m : Nat) (c : Int) (bs lv ev : Value) (lx : List Value) (nl : Nat) (Γ : List Ch) (h0 : c ≠ 0) (h1 : c ≠ 1) (hnl : nl < 1000000000) :
    CallsX Try.prog 54 #[ptrV w, prV x m, .int .i64 c, .bool false] (wdC w bs lv ev false :: .pr (SlV 53 1 lv lx nl) :: Γ)
      (fun v Δ => ∃ (lv' l' : Value) (k : Nat), v = .bool true ∧ oneC l' = true ∧ k < 1000000000 ∧ Ent Δ (wdC w bs lv' ev false :: .pr (SlV 53 1 lv' (lx ++ [l']) (nl + 1)) :: .pr (SlV 36 1 l' (List.replicate k (markV nl)) k) :: Γ)) := by
  refine calls_of_body (args := [ptrV w, prV x m, .int .i64 c, .bool false]) Try.func54 rfl Try.ntmps54 fun X cs ret => ?_
  refine ex_seq (rg_start_s (rg_boxAgg rfl fun b1 => ?_))
  repeat (first|refine zA rfl ?_|refine zD rfl ?_|refine zF rfl ?_|refine zG rfl ?_|refine zQ ?_|refine zR ?_|refine zS ?_)
  refine rg_callE rfl (LookX_bg x c _ h0 h1) ?_
  refine ⟨.inl rfl, ?_⟩
  repeat (first|refine zA rfl ?_|refine zE rfl ?_|refine zF rfl ?_|refine zG rfl ?_|refine zI rfl rfl ?_|refine zO rfl rfl ?_|refine zQ ?_|refine zR ?_|refine zS ?_|refine zV rfl ?_|refine zW fun bl=>?_|refine yB ?_)
  refine Rg.ent (ent_nil (el := 36) (m := 1)) ?_
  refine Rg.ent (ent_nil (el := 36) (m := 1)) ?_
  refine rg_callE rfl (same_ok true true _ _ [] _ (by decide)) ?_
  refine ⟨.inl rfl, ?_⟩
  repeat (first|refine zA rfl ?_|refine zB rfl rfl rfl ?_|refine zE rfl ?_|refine zF rfl ?_|refine zG rfl ?_|refine zK rfl rfl ?_|refine zQ ?_|refine zR ?_|refine zS ?_)
  (refine Rg.front 4 ?_; refine Rg.front 4 ?_; refine Rg.front 4 ?_; refine Rg.front 4 ?_; refine Rg.front 4 ?_; refine Rg.front 6 ?_; refine Rg.front 6 ?_)
  refine rg_call rfl (mine_ok w bs lv ev _ false [] lx 0 nl _ (by decide) hnl) ?_
  rintro _ D ⟨lv', l', rfl, hone, hE⟩
  refine ⟨.inl rfl, Rg.ent hE ?_⟩
  repeat (first|refine zA rfl ?_|refine zB rfl rfl rfl ?_|refine zD rfl ?_|refine zE rfl ?_|refine zF rfl ?_|refine zK rfl rfl ?_|refine zQ ?_|refine zR ?_|refine zS ?_)
  refine rg_eqBool rfl rfl ?_
  repeat (first|refine zA rfl ?_|refine zB rfl rfl rfl ?_|refine zE rfl ?_|refine zF rfl ?_|refine zG rfl ?_|refine zK rfl rfl ?_|refine zQ ?_|refine zR ?_|refine zS ?_)
  (refine Ex.front 2 ?_; refine Ex.front 2 ?_; refine Ex.front 2 ?_; refine Ex.front 6 ?_; refine Ex.front 6 ?_; refine Ex.front 6 ?_; refine Ex.front 6 ?_)
  exact ex_rete ret Try.func54 rfl (Ent.drop (Ent.drop (Ent.drop (Ent.drop (Ent.refl _))))) ⟨lv', l', 2, rfl, hone, by decide, Ent.refl _⟩

end Go.Br

namespace Go.Br
open Go Go.Lx Go.Proofs
set_option maxRecDepth 100000

/-! what no account has -/

def HasOk (s : Cn) : Prop := ∀ u co, ¬ (isUser u = true ∧ (co = 0 ∨ co = 1)) → s.has u co = 0

theorem setHas_ok {f : Int → Int → Int} {u c x : Int} (hu : isUser u = true) (hc : c = 0 ∨ c = 1) {u' c' : Int} (h : ¬ (isUser u' = true ∧ (c' = 0 ∨ c' = 1))) : setHas f u c x u' c' = f u' c' := by
  unfold setHas
  rw [if_neg]
  rintro ⟨rfl, rfl⟩
  exact h ⟨hu, hc⟩

theorem credit_has {s : Cn} {u c x : Int} (hs : HasOk s) (hu : isUser u = true) (hc : c = 0 ∨ c = 1) : HasOk (credit s u c x) := fun u' c' h => by
  show setHas s.has u c _ u' c' = 0
  rw [setHas_ok hu hc h]; exact hs u' c' h

theorem isUser_of {u : Int} (h : 0 ≤ u ∧ u < 3) : isUser u = true := by simp [isUser, h.1, h.2]

theorem find_pk {q : Int} {l : List Pk} {i : Nat} {p : Pk} (h : find l q 0 = some (i, p)) : p ∈ l := by
  obtain ⟨_, h2, _, _⟩ := find_get h
  exact List.mem_of_getElem? h2

theorem send_has {s : Cn} (hs : HasOk s) (p : Pk) : HasOk (send s p).1 := by
  unfold send
  split; · exact hs
  split; · exact hs
  split; · exact hs
  split; · exact hs
  split; · exact hs
  split; · exact hs
  rename_i h1 h2 h3 h4 h5 h6
  intro u' c' h
  show setHas s.has p.frm p.coin _ u' c' = 0
  rw [setHas_ok (by simpa using h2) (by omega) h]; exact hs u' c' h

theorem recv_has {B : Nat} {s : Cn} (hs : HasOk s) (q : Int) {kn : Hd} (okk : OkHd B kn) : HasOk (recv s q kn).1 := by
  unfold recv
  split; · exact hs
  split; · exact hs
  split; · exact hs
  rename_i h1 h2 _ i p hf
  split; · exact hs
  dsimp only
  split
  · rename_i hu
    exact credit_has (s := { s with hd := _ }) hs hu (okk.packs p (find_pk hf)).coin
  · exact hs

theorem ack_has {B : Nat} {s : Cn} (ok : Ok B s) (hs : HasOk s) (q : Int) (kn : Hd) : HasOk (ack s q kn).1 := by
  unfold ack
  split; · exact hs
  rename_i i p hf
  have hp := ok.hd.packs p (find_pk hf)
  split; · exact hs
  split; · exact hs
  dsimp only
  split
  · exact hs
  · exact credit_has (s := { s with hd := _ }) hs (isUser_of hp.frm) hp.coin

theorem back_has {B : Nat} {s : Cn} (ok : Ok B s) (hs : HasOk s) (q : Int) (kn : Hd) (cl : Bool) : HasOk (back s q kn cl).1 := by
  unfold back
  split; · exact hs
  rename_i i p hf
  have hp := ok.hd.packs p (find_pk hf)
  split; · exact hs
  split; · exact hs
  dsimp only
  exact credit_has (s := { s with hd := _ }) hs (isUser_of hp.frm) hp.coin

theorem step_has {B : Nat} {s : Cn} (ok : Ok B s) (hs : HasOk s) (x : Stp) {kn : Hd} (okk : OkHd B kn) (nh : Nat) : HasOk (step s x kn nh).1 := by
  unfold step
  split; · exact send_has hs x.p
  split
  · split <;> exact hs
  split
  · split <;> exact hs
  split
  · split <;> exact hs
  split
  · split
    · exact hs
    · split <;> exact hs
  split; · exact recv_has hs x.n okk
  split; · exact ack_has ok hs x.n kn
  split; · exact back_has ok hs x.n kn false
  split; · exact back_has ok hs x.n kn true
  exact hs

def BgHas (S : Bg) : Prop := HasOk S.s0 ∧ HasOk S.s1

theorem bgStep_has {B : Nat} {S : Bg} (ok : BgOk B S) (hs : BgHas S) (c : Int) (x : Stp) (nh : Nat) : BgHas (bgStep S c x nh).1 := by
  unfold bgStep
  split
  · exact ⟨step_has ok.ok0 hs.1 x (knOf_ok ok.ok1 ok.k0).1 nh, hs.2⟩
  split
  · exact ⟨hs.1, step_has ok.ok1 hs.2 x (knOf_ok ok.ok0 ok.k1).1 nh⟩
  · exact hs

theorem bgNew_has (co : Int) : BgHas (bgNew co) := by
  constructor
  · intro u c h
    show (if isUser u = true ∧ c = 0 then co else 0) = 0
    rw [if_neg]; rintro ⟨h1, h2⟩; exact h ⟨h1, .inl h2⟩
  · intro u c h
    show (if isUser u = true ∧ c = 1 then co else 0) = 0
    rw [if_neg]; rintro ⟨h1, h2⟩; exact h ⟨h1, .inr h2⟩

/-! the world -/

structure Pr where
  x : Nat
  m : Nat
  S : Bg

abbrev prC (p : Pr) : List Value := [ptrV p.x, ptrV p.m]
theorem prC_len : ∀ p, (prC p).length = 2 := fun _ => rfl
abbrev prCh (p : Pr) : List Ch := [.pr (BgAt p.x p.S), .pr (ModAt p.m p.S)]
abbrev prChs (ps : List Pr) : List Ch := ps.flatMap prCh

def markChs (el : Nat) (mk : Nat → Value) : Nat → List (Value × Nat) → List Ch
  | _, [] => []
  | i, u :: us => .pr (SlV el 1 u.1 (List.replicate u.2 (mk i)) u.2) :: markChs el mk (i + 1) us

abbrev errV (k : Nat) : Value := .int .i64 (1000 + k)

structure Wd where
  ps : List Pr
  us : List (Value × Nat)
  vs : List (Value × Nat)
  bv : Value
  lv : Value
  ev : Value

abbrev wdL (w : Nat) (z : Wd) (Γ : List Ch) : List Ch :=
  wdC w z.bv z.lv z.ev false :: .pr (SlV 124 2 z.bv (z.ps.flatMap prC) z.ps.length) :: .pr (SlV 53 1 z.lv (z.us.map (·.1)) z.us.length) :: .pr (SlV 23 1 z.ev (z.vs.map (·.1)) z.vs.length) ::
   .pr (Star (prChs z.ps)) :: .pr (Star (markChs 36 markV 0 z.us)) :: .pr (Star (markChs 22 errV 0 z.vs)) :: Γ

structure WOk (B : Nat) (z : Wd) : Prop where
  ok : ∀ p ∈ z.ps, BgOk B p.S
  has : ∀ p ∈ z.ps, BgHas p.S
  np : z.ps.length ≤ B
  nu : z.us.length ≤ B
  nv : z.vs.length ≤ 2 * B
  ul : ∀ u ∈ z.us, u.2 < 1000000000
  vl : ∀ u ∈ z.vs, u.2 < 1000000000

theorem WOk.mono {B B' : Nat} {z : Wd} (ok : WOk B z) (h : B ≤ B') : WOk B' z :=
  ⟨fun p hp => (ok.ok p hp).mono h, ok.has, by have := ok.np; omega, by have := ok.nu; omega, by have := ok.nv; omega, ok.ul, ok.vl⟩

/-- The world of a script, behind at most B steps. -/
def WdAt (w B : Nat) : LH → Prop := fun h => ∃ z : Wd, WOk B z ∧ Star (wdL w z []) h

theorem wd_open {w B : Nat} {Γ : List Ch} : ∀ h, Star (.pr (WdAt w B) :: Γ) h → ∃ z : Wd, WOk B z ∧ Star (wdL w z Γ) h := fun h st => by
  obtain ⟨z, st⟩ := Star.ex.1 st
  obtain ⟨ok, st⟩ := Star.pure.1 st
  exact ⟨z, ok, Star.open_.1 st⟩

theorem wd_fold {w B : Nat} {Γ : List Ch} (z : Wd) (ok : WOk B z) : EntR (.pr (WdAt w B) :: Γ) (wdL w z Γ) := Ent.star fun h st =>
  Star.ex.2 ⟨z, Star.pure.2 ⟨ok, Star.open_.2 st⟩⟩

theorem prs_perm {ps : List Pr} {i : Nat} (h : i < ps.length) : (prChs ps).Perm (prCh ps[i] ++ prChs (ps.eraseIdx i)) := by
  have h1 : (ps[i] :: ps.eraseIdx i).Perm ps := by
    have e : ps = ps.take i ++ ps[i] :: ps.drop (i + 1) := by rw [← List.drop_eq_getElem_cons h, List.take_append_drop]
    rw [List.eraseIdx_eq_take_drop_succ]
    exact (List.perm_middle.symm).trans (by rw [← e])
  have := h1.symm.flatMap_right prCh
  simpa [prChs] using this

theorem prs_get {ps : List Pr} {i : Nat} {Γ : List Ch} (h : i < ps.length) : Ent (.pr (Star (prChs ps)) :: Γ) (.pr (BgAt ps[i].x ps[i].S) :: .pr (ModAt ps[i].m ps[i].S) :: .pr (Star (prChs (ps.eraseIdx i))) :: Γ) := .star fun h' st => by
  have s1 := Star.open_.1 st
  have s2 := s1.perm ((prs_perm h).append_right Γ)
  rw [List.append_assoc] at s2
  obtain ⟨a1, b1, j1, x1, c1, d1, j2, x2, r⟩ := (show Star (.pr (BgAt ps[i].x ps[i].S) :: .pr (ModAt ps[i].m ps[i].S) :: (prChs (ps.eraseIdx i) ++ Γ)) h' from s2)
  exact ⟨a1, b1, j1, x1, c1, d1, j2, x2, Star.open_.2 r⟩

theorem prs_put {ps : List Pr} {i : Nat} {S' : Bg} {Γ : List Ch} (h : i < ps.length) : Ent (.pr (BgAt ps[i].x S') :: .pr (ModAt ps[i].m S') :: .pr (Star (prChs (ps.eraseIdx i))) :: Γ) (.pr (Star (prChs (ps.set i { ps[i] with S := S' }))) :: Γ) := .star fun h' st => by
  obtain ⟨a1, b1, j1, x1, c1, d1, j2, x2, r⟩ := st
  have s0 : Star (.pr (BgAt ps[i].x S') :: .pr (ModAt ps[i].m S') :: (prChs (ps.eraseIdx i) ++ Γ)) h' := ⟨a1, b1, j1, x1, c1, d1, j2, x2, Star.open_.1 r⟩
  have s2 : Star ((prCh { ps[i] with S := S' } ++ prChs (ps.eraseIdx i)) ++ Γ) h' := s0
  have hp := prs_perm (ps := ps.set i { ps[i] with S := S' }) (i := i) (by rw [List.length_set]; exact h)
  rw [List.getElem_set_self, List.eraseIdx_set_eq] at hp
  exact Star.open_.2 (s2.perm (hp.symm.append_right Γ))

theorem prs_set_fl {ps : List Pr} {i : Nat} {S' : Bg} (h : i < ps.length) : (ps.set i { ps[i] with S := S' }).flatMap prC = ps.flatMap prC := by
  rw [List.set_eq_take_append_cons_drop, if_pos h]
  conv => rhs; rw [← List.take_append_drop i ps, List.drop_eq_getElem_cons h]
  simp only [List.flatMap_append, List.flatMap_cons]

theorem prs_snoc {ps : List Pr} {x m : Nat} {S : Bg} {Γ : List Ch} : Ent (.pr (BgAt x S) :: .pr (ModAt m S) :: .pr (Star (prChs ps)) :: Γ) (.pr (Star (prChs (ps ++ [⟨x, m, S⟩]))) :: Γ) := .star fun h' st => by
  obtain ⟨a1, b1, j1, x1, c1, d1, j2, x2, r⟩ := st
  have s0 : Star (.pr (BgAt x S) :: .pr (ModAt m S) :: (prChs ps ++ Γ)) h' := ⟨a1, b1, j1, x1, c1, d1, j2, x2, Star.open_.1 r⟩
  have s2 : Star ((prCh ⟨x, m, S⟩ ++ prChs ps) ++ Γ) h' := s0
  refine Star.open_.2 (s2.perm (List.Perm.append_right Γ ?_))
  rw [show prChs (ps ++ [⟨x, m, S⟩]) = prChs ps ++ prCh ⟨x, m, S⟩ by simp [prChs]]
  exact List.perm_append_comm

theorem markChs_snoc (el : Nat) (mk : Nat → Value) (l : Value) (k : Nat) : ∀ (us : List (Value × Nat)) (i : Nat), markChs el mk i (us ++ [(l, k)]) = markChs el mk i us ++ [.pr (SlV el 1 l (List.replicate k (mk (i + us.length))) k)]
  | [], i => by simp [markChs]
  | u :: us, i => by
    simp only [List.cons_append, markChs, markChs_snoc el mk l k us (i + 1), List.length_cons]
    rw [show i + 1 + us.length = i + (us.length + 1) by omega]

theorem marks_snoc {el : Nat} {mk : Nat → Value} {l : Value} {k : Nat} {us : List (Value × Nat)} {Γ : List Ch} : Ent (.pr (SlV el 1 l (List.replicate k (mk us.length)) k) :: .pr (Star (markChs el mk 0 us)) :: Γ) (.pr (Star (markChs el mk 0 (us ++ [(l, k)]))) :: Γ) := .star fun h' st => by
  obtain ⟨a1, b1, j1, x1, r⟩ := st
  have s0 : Star (.pr (SlV el 1 l (List.replicate k (mk us.length)) k) :: (markChs el mk 0 us ++ Γ)) h' := ⟨a1, b1, j1, x1, Star.open_.1 r⟩
  have s2 : Star (([.pr (SlV el 1 l (List.replicate k (mk us.length)) k)] ++ markChs el mk 0 us) ++ Γ) h' := s0
  refine Star.open_.2 (s2.perm (List.Perm.append_right Γ ?_))
  rw [markChs_snoc, Nat.zero_add]
  exact List.perm_append_comm

end Go.Br
