/-
  Lemmas towards the law, proved without conditions of their own: THE REFERENCE: send; THE REFERENCE: recv; THE REFERENCE: ack; THE REFERENCE: back.
-/
import Derived.Test.YtedaknlacigbhaaPk20
namespace Go.Br
open Go Go.Lx Go.Proofs
open Go.Lx renaming rg_move → zA, rg_int → zB, rg_nilCheck → zC, rg_fieldAddr0 → zD, rg_fieldAddr → zE, rg_load → zF, rg_assign → zG, rg_loadAgg → zH, rg_extract → zI, rg_not → zJ, rg_pick → zK, rg_off → zL, rg_offU → zM, rg_store → zN, rg_storeAgg → zO, rg_convInt → zP, rg_done → zQ, ex_seq → zR, rg_start_s → zS, rg_start_d → zT, ex_cond_true → zU, ex_cond_false → zV, rg_alloc → zW, rg_boxAgg → zX, rg_build → zY, rg_lenSl → zZ, rg_lenMap → yA, ex_skip → yB, ex_block → yC, ex_inBlock → yD, ex_exit → yE, rg_caseG → yZ
set_option maxRecDepth 100000

theorem isUser_eq (u : Int) : isUser u = false ↔ (u < 0 ∨ 2 < u) := by
  simp only [isUser, Bool.and_eq_false_iff, decide_eq_false_iff_not]; omega

theorem pkFl_snoc {l : List Pk} {q : Pk} : pkFl (l ++ [q]) = pkFl l ++ pkC q := by simp [pkFl, List.flatMap_append]
theorem anFl_snoc {l : List Ans} {q : Ans} : anFl (l ++ [q]) = anFl l ++ anC q := by simp [anFl, List.flatMap_append]
theorem len_snoc {α : Type} (l : List α) (q : α) : (l ++ [q]).length = l.length + 1 := by simp
theorem ref_foldR {c : Nat} {s : Cn} {Γ : List Ch} (y : RLay) (ok : RLOk s y) : EntR (.pr (RefAt c s) :: Γ) (refL c s y Γ) := ref_fold y ok

set_option maxHeartbeats 2000000 in
theorem rsend_ok (c : Nat) (s : Cn) (p : Pk) (Γ : List Ch) (h1 : s.hd.packets.length < 1000000000) :
    CallsX Try.prog 80 #[ptrV c, pkV p] (.pr (RefAt c s) :: Γ)
      (fun v Δ => v = .tuple #[.int .u64 (send s p).2.1, .int .i64 (send s p).2.2] ∧ Ent Δ (.pr (RefAt c (send s p).1) :: Γ)) := by
  refine CallsX.open_ ref_open fun y ok => ?_
  obtain ⟨pv, av, hv, zs⟩ := y
  refine calls_of_body (args := [ptrV c, pkV p]) Try.func80 rfl Try.ntmps80 fun X cs ret => ?_
  dsimp only [refL]
  refine ex_seq (rg_start_s (rg_boxAgg rfl fun b1 => ?_))
  repeat (first|refine zA rfl ?_|refine zC rfl ?_|refine zD rfl ?_|refine zE rfl ?_|refine zF rfl ?_|refine zG rfl ?_|refine zJ rfl ?_|refine zQ ?_|refine zR ?_|refine zS ?_)
  refine ex_cond_split rfl (fun h1 => ?_) (fun h1 => ?_)
  · have e : send s p = (s, 0, 2) := by simp at h1; simp [send, h1]
    simp only [e] at ret
    repeat (first|refine zG rfl ?_|refine zQ ?_|refine zR ?_|refine zS ?_)
    exact ex_rete ret Try.func80 rfl (Ent.drop (ref_fold ⟨pv, av, hv, zs⟩ ok)) ⟨rfl, Ent.refl _⟩
  replace h1 : s.hd.opn = true := by simpa using h1
  apply join (isUser p.frm = true)
  · intro J
    repeat (first|refine zA rfl ?_|refine zB rfl rfl rfl ?_|refine zE rfl ?_|refine zF rfl ?_|refine zR ?_|refine zS ?_|refine yB ?_)
    refine rg_caseG rfl rfl (fun h3 => ?_) (fun h3 => ?_)
    · repeat (first|refine zG rfl ?_|refine zK rfl rfl ?_|refine zL rfl rfl rfl rfl (by decide) trivial rfl ?_|refine zQ ?_|refine zR ?_|refine zS ?_|refine zU rfl ?_)
      have h3 := of_decide_eq_true h3
      have e : send s p = (s, 0, 3) := by rw [send, if_neg (by simp [h1]), if_pos ((isUser_eq _).2 (.inl h3))]
      simp only [e] at ret
      skip
      exact ex_rete ret Try.func80 rfl (Ent.drop (ref_fold ⟨pv, av, hv, zs⟩ ok)) ⟨rfl, Ent.refl _⟩
    · repeat (first|refine zB rfl rfl rfl ?_|refine zE rfl ?_|refine zF rfl ?_|refine zK rfl rfl ?_|refine zQ ?_)
      have h3 := of_decide_eq_false h3
      refine ex_cond_split rfl (fun h4 => ?_) (fun h4 => ?_)
      · have h4 := of_decide_eq_true h4
        have e : send s p = (s, 0, 3) := by rw [send, if_neg (by simp [h1]), if_pos ((isUser_eq _).2 (.inr h4))]
        simp only [e] at ret
        repeat (first|refine zG rfl ?_|refine zQ ?_|refine zR ?_|refine zS ?_)
        exact ex_rete ret Try.func80 rfl (Ent.drop (ref_fold ⟨pv, av, hv, zs⟩ ok)) ⟨rfl, Ent.refl _⟩
      · have h4 := of_decide_eq_false h4
        repeat (first|refine zR ?_|refine yB ?_)
        exact Ex.sup (E' := [(3, ptrV b1), (0, ptrV c)]) (J (by cases e : isUser p.frm with | true => rfl | false => rcases (isUser_eq _).1 e with h | h <;> omega)) ⟨rfl, rfl, trivial⟩
  intro h2
  have hfrm : 0 ≤ p.frm ∧ p.frm < 3 := by simpa [isUser] using h2
  apply join (p.coin = 0 ∨ p.coin = 1)
  · intro J
    repeat (first|refine zA rfl ?_|refine zB rfl rfl rfl ?_|refine zE rfl ?_|refine zF rfl ?_|refine zS ?_)
    refine rg_caseG rfl rfl (fun h3 => ?_) (fun h3 => ?_)
    · repeat (first|refine zG rfl ?_|refine zK rfl rfl ?_|refine zL rfl rfl rfl rfl (by decide) trivial rfl ?_|refine zQ ?_|refine zR ?_|refine zS ?_|refine zU rfl ?_)
      have h3 := of_decide_eq_true h3
      have e : send s p = (s, 0, 4) := by rw [send, if_neg (by simp [h1]), if_neg (by simp [h2]), if_pos (by omega)]
      simp only [e] at ret
      skip
      exact ex_rete ret Try.func80 rfl (Ent.drop (ref_fold ⟨pv, av, hv, zs⟩ ok)) ⟨rfl, Ent.refl _⟩
    · repeat (first|refine zB rfl rfl rfl ?_|refine zE rfl ?_|refine zF rfl ?_|refine zK rfl rfl ?_|refine zQ ?_)
      have h3 := of_decide_eq_false h3
      refine ex_cond_split rfl (fun h4 => ?_) (fun h4 => ?_)
      · have h4 := of_decide_eq_true h4
        have e : send s p = (s, 0, 4) := by rw [send, if_neg (by simp [h1]), if_neg (by simp [h2]), if_pos (by omega)]
        simp only [e] at ret
        repeat (first|refine zG rfl ?_|refine zQ ?_|refine zR ?_|refine zS ?_)
        exact ex_rete ret Try.func80 rfl (Ent.drop (ref_fold ⟨pv, av, hv, zs⟩ ok)) ⟨rfl, Ent.refl _⟩
      · have h4 := of_decide_eq_false h4
        repeat (first|refine zR ?_|refine yB ?_)
        exact Ex.sup (E' := [(3, ptrV b1), (0, ptrV c)]) (J (by omega)) ⟨rfl, rfl, trivial⟩
  intro hco
  have hco' : ¬ (p.coin ≠ 0 ∧ p.coin ≠ 1) := by omega
  repeat (first|refine zB rfl rfl rfl ?_|refine zE rfl ?_|refine zF rfl ?_|refine zQ ?_|refine zS ?_)
  refine ex_cond_split rfl (fun h3 => ?_) (fun h3 => ?_)
  · have e : send s p = (s, 0, 5) := by rw [send, if_neg (by simp [h1]), if_neg (by simp [h2]), if_neg hco', if_pos (of_decide_eq_true h3)]
    simp only [e] at ret
    repeat (first|refine zG rfl ?_|refine zQ ?_|refine zR ?_|refine zS ?_)
    exact ex_rete ret Try.func80 rfl (Ent.drop (ref_fold ⟨pv, av, hv, zs⟩ ok)) ⟨rfl, Ent.refl _⟩
  replace h3 := of_decide_eq_false h3
  repeat (first|refine zA rfl ?_|refine zC rfl ?_|refine zE rfl ?_|refine zF rfl ?_|refine zR ?_|refine zT (by decide+kernel) (by decide+kernel) ?_|refine yB ?_)
  refine rg_indexArr rfl rfl (by omega) ?_
  skip
  refine rg_indexArr rfl rfl (by omega) ?_
  skip
  refine rg_load rfl ?_ (has_get s pv av hv p.frm p.coin hfrm hco)
  repeat (first|refine zB rfl rfl rfl ?_|refine zE rfl ?_|refine zF rfl ?_|refine zQ ?_)
  refine ex_cond_split rfl (fun h4 => ?_) (fun h4 => ?_)
  · have e : send s p = (s, 0, 6) := by rw [send, if_neg (by simp [h1]), if_neg (by simp [h2]), if_neg hco', if_neg h3, if_pos (of_decide_eq_true h4)]
    simp only [e] at ret
    repeat (first|refine zG rfl ?_|refine zQ ?_|refine zR ?_|refine zS ?_)
    exact ex_rete ret Try.func80 rfl (Ent.drop (ref_fold ⟨pv, av, hv, zs⟩ ok)) ⟨rfl, Ent.refl _⟩
  replace h4 := of_decide_eq_false h4
  apply join (¬ (p.height = 0 ∧ p.time = 0))
  · intro J
    repeat (first|refine zA rfl ?_|refine zB rfl rfl rfl ?_|refine zE rfl ?_|refine zF rfl ?_|refine zR ?_|refine zS ?_|refine yB ?_)
    refine rg_caseG rfl rfl (fun h5 => ?_) (fun h5 => ?_)
    · repeat (first|refine zB rfl rfl rfl ?_|refine zE rfl ?_|refine zF rfl ?_|refine zK rfl rfl ?_|refine zQ ?_)
      have h5 := of_decide_eq_true h5
      refine ex_cond_split rfl (fun h6 => ?_) (fun h6 => ?_)
      · have h6 := of_decide_eq_true h6
        have e : send s p = (s, 0, 7) := by rw [send, if_neg (by simp [h1]), if_neg (by simp [h2]), if_neg hco', if_neg h3, if_neg h4, if_pos ⟨h5, h6⟩]
        simp only [e] at ret
        repeat (first|refine zG rfl ?_|refine zQ ?_|refine zR ?_|refine zS ?_)
        exact ex_rete ret Try.func80 rfl (Ent.drop (ref_fold ⟨pv, av, hv, zs⟩ ok)) ⟨rfl, Ent.refl _⟩
      · have h6 := of_decide_eq_false h6
        repeat (first|refine zR ?_|refine yB ?_)
        exact Ex.sup (E' := [(3, ptrV b1), (0, ptrV c)]) (J (fun e => h6 e.2)) ⟨rfl, rfl, trivial⟩
    · have h5 := of_decide_eq_false h5
      repeat (first|refine zK rfl rfl ?_|refine zL rfl rfl rfl rfl (by decide) trivial rfl ?_|refine zQ ?_|refine zR ?_|refine zV rfl ?_|refine yB ?_)
      exact Ex.sup (E' := [(3, ptrV b1), (0, ptrV c)]) (J (fun e => h5 e.1)) ⟨rfl, rfl, trivial⟩
  intro hdue
  repeat (first|refine zA rfl ?_|refine zC rfl ?_|refine zE rfl ?_|refine zF rfl ?_|refine zT (by decide+kernel) (by decide+kernel) ?_)
  refine rg_indexArr rfl rfl (by omega) ?_
  skip
  refine rg_indexArr rfl rfl (by omega) ?_
  skip
  refine rg_load rfl ?_ (has_get s pv av hv p.frm p.coin hfrm hco)
  repeat (first|refine zB rfl rfl rfl ?_|refine zC rfl ?_|refine zE rfl ?_|refine zF rfl ?_)
  refine rg_indexArr rfl rfl (by omega) ?_
  skip
  refine rg_indexArr rfl rfl (by omega) ?_
  haveI := has_set s pv av hv p.frm p.coin (wu (s.has p.frm p.coin - p.amount)) hfrm hco
  refine rg_store rfl rfl ?_
  repeat (first|refine zA rfl ?_|refine zB rfl rfl rfl ?_|refine zC rfl ?_|refine zE rfl ?_|refine zF rfl ?_|refine zQ ?_|refine zR ?_|refine zT (by decide+kernel) (by decide+kernel) ?_)
  have h0 : send s p = ({ s with has := setHas s.has p.frm p.coin (wu (s.has p.frm p.coin - p.amount)), locked := if p.coin = s.n then wu (s.locked + p.amount) else s.locked, about := if p.coin = s.n then s.about else wu (s.about - p.amount), hd := { s.hd with packets := s.hd.packets ++ [{ p with seq := s.nsend }] }, nsend := wu (s.nsend + 1) }, s.nsend, 0) := by
    rw [send, if_neg (by simp [h1]), if_neg (by simp [h2]), if_neg hco', if_neg h3, if_neg h4, if_neg hdue]
  refine ex_cond_split rfl (fun h => ?_) (fun h => ?_)
  · have h : p.coin = s.n := of_decide_eq_true h
    rw [if_pos h, if_pos h] at h0
    simp only [h0] at ret
    repeat (first|refine zA rfl ?_|refine zB rfl rfl rfl ?_|refine zC rfl ?_|refine zD rfl ?_|refine zE rfl ?_|refine zF rfl ?_|refine zH rfl ?_|refine zN rfl rfl ?_|refine zQ ?_|refine zR ?_|refine zS ?_|refine zT (by decide+kernel) (by decide+kernel) ?_)
    refine rg_buildSlice (vs := [.agg ⟨pkC { p with seq := s.nsend }⟩]) rfl rfl rfl rfl (fun b2 => ?_)
    (refine Rg.front 3 ?_)
    refine rg_append (xs := pkFl s.hd.packets) (ys := pkC { p with seq := s.nsend }) (len := s.hd.packets.length) (c := 1) rfl rfl (.inr ⟨b2, 0, 1, true, pkC { p with seq := s.nsend }, 49, (0, 0), rfl, Find.mem, inferInstance⟩) (fun v hv => pk_one (l := [{ p with seq := s.nsend }]) v (by simpa [pkFl] using hv)) (by omega) (by omega) (fun s' => .inr (by (repeat' first | exact trivial | refine ⟨.inr ⟨_, _, _, _, Find.mem, rfl⟩, ?_⟩ | refine ⟨.inr ⟨_, _, _, _, Find.mem, inferInstance⟩, ?_⟩ | refine ⟨.inr ⟨_, Find.mem⟩, ?_⟩ | refine ⟨.inl (by decide +kernel), ?_⟩))) (fun s' hone => ?_)
    repeat (first|refine zC rfl ?_|refine zD rfl ?_|refine zE rfl ?_)
    refine rg_store rfl rfl ?_ hone
    repeat (first|refine zD rfl ?_|refine zF rfl ?_|refine zG rfl ?_|refine zQ ?_|refine zR ?_|refine zS ?_)
    (refine Ex.front 0 ?_; refine Ex.front 3 ?_; refine Ex.front 3 ?_; refine Ex.front 3 ?_)
    refine ex_rete ret Try.func80 rfl (Ent.drop (Ent.drop (Ent.refl _))) ⟨rfl, ?_⟩
    rw [← pkFl_snoc, ← len_snoc s.hd.packets { p with seq := s.nsend }]
    exact EntR.e (ref_foldR ⟨s', av, hv, zs⟩ ⟨ok.heads, ok.one⟩)
  · have h : ¬ p.coin = s.n := of_decide_eq_false h
    rw [if_neg h, if_neg h] at h0
    simp only [h0] at ret
    repeat (first|refine zA rfl ?_|refine zB rfl rfl rfl ?_|refine zC rfl ?_|refine zD rfl ?_|refine zE rfl ?_|refine zF rfl ?_|refine zH rfl ?_|refine zN rfl rfl ?_|refine zQ ?_|refine zR ?_|refine zS ?_|refine zT (by decide+kernel) (by decide+kernel) ?_)
    refine rg_buildSlice (vs := [.agg ⟨pkC { p with seq := s.nsend }⟩]) rfl rfl rfl rfl (fun b2 => ?_)
    (refine Rg.front 3 ?_)
    refine rg_append (xs := pkFl s.hd.packets) (ys := pkC { p with seq := s.nsend }) (len := s.hd.packets.length) (c := 1) rfl rfl (.inr ⟨b2, 0, 1, true, pkC { p with seq := s.nsend }, 49, (0, 0), rfl, Find.mem, inferInstance⟩) (fun v hv => pk_one (l := [{ p with seq := s.nsend }]) v (by simpa [pkFl] using hv)) (by omega) (by omega) (fun s' => .inr (by (repeat' first | exact trivial | refine ⟨.inr ⟨_, _, _, _, Find.mem, rfl⟩, ?_⟩ | refine ⟨.inr ⟨_, _, _, _, Find.mem, inferInstance⟩, ?_⟩ | refine ⟨.inr ⟨_, Find.mem⟩, ?_⟩ | refine ⟨.inl (by decide +kernel), ?_⟩))) (fun s' hone => ?_)
    repeat (first|refine zC rfl ?_|refine zD rfl ?_|refine zE rfl ?_)
    refine rg_store rfl rfl ?_ hone
    repeat (first|refine zD rfl ?_|refine zF rfl ?_|refine zG rfl ?_|refine zQ ?_|refine zR ?_|refine zS ?_)
    (refine Ex.front 0 ?_; refine Ex.front 3 ?_; refine Ex.front 3 ?_; refine Ex.front 3 ?_)
    refine ex_rete ret Try.func80 rfl (Ent.drop (Ent.drop (Ent.refl _))) ⟨rfl, ?_⟩
    rw [← pkFl_snoc, ← len_snoc s.hd.packets { p with seq := s.nsend }]
    exact EntR.e (ref_foldR ⟨s', av, hv, zs⟩ ⟨ok.heads, ok.one⟩)

end Go.Br

namespace Go.Br
open Go Go.Lx Go.Proofs
open Go.Lx renaming rg_move → zA, rg_int → zB, rg_nilCheck → zC, rg_fieldAddr0 → zD, rg_fieldAddr → zE, rg_load → zF, rg_assign → zG, rg_loadAgg → zH, rg_extract → zI, rg_not → zJ, rg_pick → zK, rg_off → zL, rg_offU → zM, rg_store → zN, rg_storeAgg → zO, rg_convInt → zP, rg_done → zQ, ex_seq → zR, rg_start_s → zS, rg_start_d → zT, ex_cond_true → zU, ex_cond_false → zV, rg_alloc → zW, rg_boxAgg → zX, rg_build → zY, rg_lenSl → zZ, rg_lenMap → yA, ex_skip → yB, ex_block → yC, ex_inBlock → yD, ex_exit → yE, rg_caseG → yZ
set_option maxRecDepth 100000

theorem rfind_none {l : List Pk} {q : Int} (h : find l q 0 = none) : rfind l q = -1 := by simp [rfind, h]
theorem rfind_some {l : List Pk} {q : Int} {i : Nat} {p : Pk} (h : find l q 0 = some (i, p)) : rfind l q = i := by simp [rfind, h]

abbrev kpC (z : RZ) : Ch := .pr (SlP false 49 7 z.2.1 (pkFl z.1.packets) z.1.packets.length)
abbrev kaC (z : RZ) : Ch := .pr (SlP false 186 2 z.2.2 (anFl z.1.answers) z.1.answers.length)

theorem rr_fold {c : Nat} {s : Cn} {z : RZ} {Γ : List Ch} (y : RLay) (ok : RLOk s y) : EntR (.pr (RefAt c s) :: .pr (RHead z) :: Γ) (refL c s y (kpC z :: kaC z :: Γ)) :=
  Ent.trans (ref_fold y ok) (Ent.cons rhead_fold)

theorem rr_foldB {c : Nat} {s : Cn} {kn : Hd} {kav : Value} {Γ : List Ch} (y : RLay) (ok : RLOk s y) (b0 cap : Nat) (slack : List Value) (h : kn.packets.length ≤ cap ∧ (pkFl kn.packets).length = kn.packets.length * 7 ∧ slack.length = (cap - kn.packets.length) * 7) :
    EntR (.pr (RefAt c s) :: .pr (RHead (kn, .slice (some ⟨b0, 0, none⟩) kn.packets.length cap, kav)) :: Γ) (.pt b0 false (.cells ⟨pkFl kn.packets ++ slack⟩ 49 (0, 0)) :: refL c s y (kaC (kn, .slice (some ⟨b0, 0, none⟩) kn.packets.length cap, kav) :: Γ)) :=
  Ent.trans (EntR.e (slp_fold b0 cap slack h)) (Ent.trans (Ent.perm (by
    refine (List.Perm.swap _ _ _).trans (.cons _ ?_)
    refine (List.Perm.swap _ _ _).trans (.cons _ ?_)
    refine (List.Perm.swap _ _ _).trans (.cons _ ?_)
    refine (List.Perm.swap _ _ _).trans (.cons _ ?_)
    exact (List.Perm.swap _ _ _))) (EntR.e (rr_fold (z := (kn, .slice (some ⟨b0, 0, none⟩) kn.packets.length cap, kav)) y ok)))

set_option maxHeartbeats 2000000 in
theorem rrecv_ok (c : Nat) (s : Cn) (q : Int) (z : RZ) (B : Nat) (Γ : List Ch) (okk : OkHd B z.1) (h1 : s.hd.answers.length < 1000000000) (h2 : z.1.packets.length < 1000000000) :
    CallsX Try.prog 81 #[ptrV c, .int .u64 q, .agg ⟨hdC z⟩] (.pr (RefAt c s) :: .pr (RHead z) :: Γ)
      (fun v Δ => v = .int .i64 (recv s q z.1).2 ∧ Ent Δ (.pr (RefAt c (recv s q z.1).1) :: .pr (RHead z) :: Γ)) := by
  obtain ⟨kn, kpv, kav⟩ := z
  dsimp only at okk h2 ⊢
  refine CallsX.open_ ref_open fun y ok => ?_
  obtain ⟨pv, av, hv, zs⟩ := y
  refine calls_of_body (args := [ptrV c, .int .u64 q, .agg ⟨hdC (kn, kpv, kav)⟩]) Try.func81 rfl Try.ntmps81 fun X cs ret => ?_
  dsimp only [refL]
  (refine Ex.front 5 ?_)
  refine Ex.ent rhead_open ?_
  dsimp only
  (refine Ex.front 1 ?_; refine Ex.front 1 ?_; refine Ex.front 6 ?_; refine Ex.front 6 ?_; refine Ex.front 6 ?_; refine Ex.front 6 ?_; refine Ex.front 6 ?_)
  refine ex_seq (rg_start_s (rg_boxAgg rfl fun b1 => ?_))
  repeat (first|refine zA rfl ?_|refine zC rfl ?_|refine zD rfl ?_|refine zE rfl ?_|refine zF rfl ?_|refine zG rfl ?_|refine zJ rfl ?_|refine zQ ?_|refine zR ?_|refine zS ?_)
  refine ex_cond_split rfl (fun g1 => ?_) (fun g1 => ?_)
  · have e : recv s q kn = (s, 2) := by simp at g1; simp [recv, g1]
    simp only [e] at ret
    repeat (first|refine zG rfl ?_|refine zQ ?_|refine zR ?_|refine zS ?_)
    exact ex_rete ret Try.func81 rfl (Ent.drop (EntR.e (rr_fold (z := (kn, kpv, kav)) ⟨pv, av, hv, zs⟩ ok))) ⟨rfl, Ent.refl _⟩
  replace g1 : ¬ s.hd.opn = false := by simpa using g1
  repeat (first|refine zA rfl ?_|refine zB rfl rfl rfl ?_|refine zC rfl ?_|refine zD rfl ?_|refine zE rfl ?_|refine zF rfl ?_|refine zQ ?_|refine zR ?_|refine zS ?_|refine yB ?_)
  refine ex_cond_split rfl (fun g2 => ?_) (fun g2 => ?_)
  · replace g2 : q ≠ s.hd.nrecv := by simpa using g2
    have e : recv s q kn = (s, 9) := by rw [recv, if_neg g1, if_pos g2]
    simp only [e] at ret
    repeat (first|refine zG rfl ?_|refine zQ ?_|refine zR ?_|refine zS ?_)
    exact ex_rete ret Try.func81 rfl (Ent.drop (EntR.e (rr_fold (z := (kn, kpv, kav)) ⟨pv, av, hv, zs⟩ ok))) ⟨rfl, Ent.refl _⟩
  replace g2 : ¬ q ≠ s.hd.nrecv := by simpa using g2
  repeat (first|refine zA rfl ?_|refine zE rfl ?_|refine zF rfl ?_|refine zR ?_|refine zS ?_|refine yB ?_)
  (refine Rg.front 6 ?_)
  refine rg_call rfl (rfind_ok false kpv kn.packets q _ (by omega)) ?_
  rintro _ D ⟨rfl, hE⟩
  refine ⟨.inl rfl, Rg.ent hE ?_⟩
  (refine Rg.front 0 ?_; refine Rg.front 6 ?_; refine Rg.front 6 ?_; refine Rg.front 6 ?_; refine Rg.front 6 ?_; refine Rg.front 6 ?_; refine Rg.front 6 ?_)
  rcases hf : find kn.packets q 0 with _ | ⟨i, p⟩
  · have e : recv s q kn = (s, 10) := by rw [recv, if_neg g1, if_neg g2, hf]
    simp only [e] at ret
    rw [rfind_none hf]
    repeat (first|refine zA rfl ?_|refine zB rfl rfl rfl ?_|refine zG rfl ?_|refine zQ ?_|refine zR ?_|refine zS ?_|refine zU rfl ?_)
    exact ex_rete ret Try.func81 rfl (Ent.drop (EntR.e (rr_fold (z := (kn, kpv, kav)) ⟨pv, av, hv, zs⟩ ok))) ⟨rfl, Ent.refl _⟩
  rw [rfind_some hf]
  obtain ⟨_, hget, hlt, hseq⟩ := find_get hf
  rw [Nat.sub_zero] at hget hlt
  have hok := okk.packs p (List.mem_of_getElem? hget)
  repeat (first|refine zG rfl ?_|refine zQ ?_|refine zR ?_)
  (refine Ex.front 6 ?_)
  refine ex_slp (fun _ _ h => absurd h (by omega)) (fun b0 cap slack hs hz => ?_)
  subst hs
  repeat (first|refine zA rfl ?_|refine zB rfl rfl rfl ?_|refine zE rfl ?_|refine zF rfl ?_|refine zQ ?_|refine zR ?_|refine zS ?_|refine zV rfl ?_|refine yB ?_)
  refine rg_indexSl rfl rfl ⟨by omega, by omega⟩ ?_
  rw [Int.toNat_natCast, Nat.zero_add (i * 7)]
  haveI := sliceL_flat pkC_len kn.packets i p hget slack
  refine rg_loadAgg rfl ?_
  repeat (first|refine zA rfl ?_|refine zC rfl ?_|refine zD rfl ?_|refine zE rfl ?_|refine zF rfl ?_|refine zH rfl ?_|refine zO rfl rfl ?_|refine zQ ?_|refine zR ?_|refine zT (by decide+kernel) (by decide+kernel) ?_|refine zW fun bl=>?_)
  refine rg_call rfl (rdue_ok p s.hd.height s.hd.time _) ?_
  rintro _ _ ⟨rfl, rfl⟩
  refine ⟨.inr (by (repeat' first | exact trivial | refine ⟨.inr ⟨_, _, _, _, Find.mem, rfl⟩, ?_⟩ | refine ⟨.inr ⟨_, _, _, _, Find.mem, inferInstance⟩, ?_⟩ | refine ⟨.inr ⟨_, Find.mem⟩, ?_⟩ | refine ⟨.inl (by decide +kernel), ?_⟩)), ?_⟩
  repeat refine zQ ?_
  refine ex_cond_split rfl (fun g3 => ?_) (fun g3 => ?_)
  · have e : recv s q kn = (s, 11) := by rw [recv, if_neg g1, if_neg g2, hf]; exact if_pos g3
    simp only [e] at ret
    repeat (first|refine zG rfl ?_|refine zQ ?_|refine zR ?_|refine zS ?_)
    (refine Ex.front 3 ?_; refine Ex.front 2 ?_; refine Ex.front 3 ?_; refine Ex.front 3 ?_)
    exact ex_rete ret Try.func81 rfl (Ent.drop (Ent.drop (EntR.e (rr_foldB ⟨pv, av, hv, zs⟩ ok b0 cap slack hz)))) ⟨rfl, Ent.refl _⟩
  have e0 : recv s q kn = (if isUser p.to = true then credit { s with hd := { s.hd with nrecv := wu (s.hd.nrecv + 1), answers := s.hd.answers ++ [⟨q, isUser p.to⟩] } } p.to p.coin p.amount else { s with hd := { s.hd with nrecv := wu (s.hd.nrecv + 1), answers := s.hd.answers ++ [⟨q, isUser p.to⟩] } }, 0) := by
    rw [recv, if_neg g1, if_neg g2, hf]; exact if_neg (by simp [g3])
  rcases hu : isUser p.to with _ | _
  · rw [hu] at e0
    simp only [Bool.false_eq_true, if_false] at e0
    simp only [e0] at ret
    apply join True
    · intro J
      repeat (first|refine zA rfl ?_|refine zB rfl rfl rfl ?_|refine zC rfl ?_|refine zD rfl ?_|refine zE rfl ?_|refine zF rfl ?_|refine zN rfl rfl ?_|refine zQ ?_|refine zR ?_|refine zS ?_|refine yB ?_)
      refine rg_caseG rfl rfl (fun h3 => ?_) (fun h3 => ?_)
      · repeat (first|refine zA rfl ?_|refine zB rfl rfl rfl ?_|refine zE rfl ?_|refine zF rfl ?_|refine zG rfl ?_|refine zK rfl rfl ?_|refine zQ ?_|refine zR ?_|refine zS ?_)
        have h3 := of_decide_eq_true h3
        have h4 : decide (p.to ≤ 2) = false := by
          rcases (isUser_eq _).1 hu with h | h
          · omega
          · exact decide_eq_false (by omega)
        rw [h4]
        exact Ex.sup (E' := [(63, .bool false), (9, .bool false), (8, ptrV bl), (1, .int .u64 q), (0, ptrV c)]) (J trivial) ⟨rfl, rfl, rfl, rfl, rfl, trivial⟩
      · repeat (first|refine zG rfl ?_|refine zK rfl rfl ?_|refine zL rfl rfl rfl rfl (by decide) trivial rfl ?_|refine zQ ?_|refine zR ?_)
        refine rg_start_s ?_
        repeat (first|refine zA rfl ?_|refine zQ ?_)
        exact Ex.sup (E' := [(63, .bool false), (9, .bool false), (8, ptrV bl), (1, .int .u64 q), (0, ptrV c)]) (J trivial) ⟨rfl, rfl, rfl, rfl, rfl, trivial⟩
    intro _
    repeat (first|refine zA rfl ?_|refine zC rfl ?_|refine zD rfl ?_|refine zE rfl ?_|refine zF rfl ?_|refine zR ?_|refine zS ?_|refine zV rfl ?_|refine zY rfl ?_|refine yB ?_)
    refine rg_buildSlice (vs := [.agg ⟨anC ⟨q, false⟩⟩]) rfl rfl rfl rfl (fun b2 => ?_)
    (refine Rg.front 6 ?_)
    refine rg_append (xs := anFl s.hd.answers) (ys := anC ⟨q, false⟩) (len := s.hd.answers.length) (c := 1) rfl rfl (.inr ⟨b2, 0, 1, true, anC ⟨q, false⟩, 186, (0, 0), rfl, Find.mem, inferInstance⟩) (fun v hv => an_one (l := [⟨q, false⟩]) v (by simpa [anFl] using hv)) (by omega) (by omega) (fun s' => .inl rfl) (fun s' hone => ?_)
    repeat (first|refine zC rfl ?_|refine zD rfl ?_|refine zE rfl ?_)
    refine rg_store rfl rfl ?_ hone
    repeat (first|refine zG rfl ?_|refine zQ ?_|refine zR ?_|refine zS ?_)
    (refine Ex.front 9 ?_; refine Ex.front 9 ?_; refine Ex.front 9 ?_; refine Ex.front 3 ?_; refine Ex.front 9 ?_; refine Ex.front 9 ?_; refine Ex.front 8 ?_; refine Ex.front 9 ?_; refine Ex.front 9 ?_; refine Ex.front 9 ?_)
    refine ex_rete ret Try.func81 rfl (Ent.drop (Ent.drop (Ent.drop (Ent.refl _)))) ⟨rfl, ?_⟩
    rw [← anFl_snoc, ← len_snoc s.hd.answers ⟨q, false⟩]
    exact EntR.e (rr_foldB ⟨pv, s', hv, zs⟩ (by exact ⟨ok.heads, ok.one⟩) b0 cap slack hz)
  · rw [hu] at e0
    simp only [if_true] at e0
    simp only [e0] at ret
    have hu' : 0 ≤ p.to ∧ p.to < 3 := by simpa [isUser] using hu
    repeat (first|refine zA rfl ?_|refine zB rfl rfl rfl ?_|refine zC rfl ?_|refine zD rfl ?_|refine zE rfl ?_|refine zF rfl ?_|refine zN rfl rfl ?_|refine zQ ?_|refine zR ?_|refine zS ?_|refine yB ?_)
    refine rg_caseG rfl rfl (fun h3 => ?_) (fun h3 => absurd (of_decide_eq_false h3) (by omega))
    repeat (first|refine zA rfl ?_|refine zB rfl rfl rfl ?_|refine zE rfl ?_|refine zF rfl ?_|refine zG rfl ?_|refine zK rfl rfl ?_|refine zQ ?_|refine zR ?_|refine zS ?_)
    have h4 : decide (p.to ≤ 2) = true := decide_eq_true (by omega)
    rw [h4]
    repeat (first|refine zA rfl ?_|refine zE rfl ?_|refine zF rfl ?_|refine zS ?_|refine zU rfl ?_)
    (refine Rg.front 2 ?_; refine Rg.front 2 ?_; refine Rg.front 2 ?_; refine Rg.front 3 ?_)
    refine rg_call rfl (rcredit_ok c { s with hd := { s.hd with nrecv := wu (s.hd.nrecv + 1), answers := s.hd.answers ++ [⟨q, true⟩] } } pv av hv p.to p.coin p.amount _ hu' hok.coin) ?_
    rintro _ _ ⟨rfl, rfl⟩
    refine ⟨.inl rfl, ?_⟩
    (refine Rg.front 0 ?_; refine Rg.front 3 ?_; refine Rg.front 3 ?_; refine Rg.front 3 ?_)
    repeat (first|refine zA rfl ?_|refine zC rfl ?_|refine zD rfl ?_|refine zE rfl ?_|refine zF rfl ?_|refine zQ ?_|refine zR ?_|refine zS ?_|refine zY rfl ?_)
    refine rg_buildSlice (vs := [.agg ⟨anC ⟨q, true⟩⟩]) rfl rfl rfl rfl (fun b2 => ?_)
    (refine Rg.front 6 ?_)
    refine rg_append (xs := anFl s.hd.answers) (ys := anC ⟨q, true⟩) (len := s.hd.answers.length) (c := 1) rfl rfl (.inr ⟨b2, 0, 1, true, anC ⟨q, true⟩, 186, (0, 0), rfl, Find.mem, inferInstance⟩) (fun v hv => an_one (l := [⟨q, true⟩]) v (by simpa [anFl] using hv)) (by omega) (by omega) (fun s' => .inl rfl) (fun s' hone => ?_)
    repeat (first|refine zC rfl ?_|refine zD rfl ?_|refine zE rfl ?_)
    refine rg_store rfl rfl ?_ hone
    repeat (first|refine zG rfl ?_|refine zQ ?_|refine zR ?_|refine zS ?_)
    (refine Ex.front 9 ?_; refine Ex.front 9 ?_; refine Ex.front 9 ?_; refine Ex.front 3 ?_; refine Ex.front 9 ?_; refine Ex.front 9 ?_; refine Ex.front 8 ?_; refine Ex.front 9 ?_; refine Ex.front 9 ?_; refine Ex.front 9 ?_)
    refine ex_rete ret Try.func81 rfl (Ent.drop (Ent.drop (Ent.drop (Ent.refl _)))) ⟨rfl, ?_⟩
    rw [← anFl_snoc, ← len_snoc s.hd.answers ⟨q, true⟩]
    exact EntR.e (rr_foldB ⟨pv, s', hv, zs⟩ (by exact ⟨ok.heads, ok.one⟩) b0 cap slack hz)

end Go.Br

namespace Go.Br
open Go Go.Lx Go.Proofs
open Go.Lx renaming rg_move → zA, rg_int → zB, rg_nilCheck → zC, rg_fieldAddr0 → zD, rg_fieldAddr → zE, rg_load → zF, rg_assign → zG, rg_loadAgg → zH, rg_extract → zI, rg_not → zJ, rg_pick → zK, rg_off → zL, rg_offU → zM, rg_store → zN, rg_storeAgg → zO, rg_convInt → zP, rg_done → zQ, ex_seq → zR, rg_start_s → zS, rg_start_d → zT, ex_cond_true → zU, ex_cond_false → zV, rg_alloc → zW, rg_boxAgg → zX, rg_build → zY, rg_lenSl → zZ, rg_lenMap → yA, ex_skip → yB, ex_block → yC, ex_inBlock → yD, ex_exit → yE, rg_caseG → yZ
set_option maxRecDepth 100000

theorem rr_foldA {c : Nat} {s : Cn} {kn : Hd} {kpv : Value} {Γ : List Ch} (y : RLay) (ok : RLOk s y) (b0 cap : Nat) (slack : List Value) (h : kn.answers.length ≤ cap ∧ (anFl kn.answers).length = kn.answers.length * 2 ∧ slack.length = (cap - kn.answers.length) * 2) :
    EntR (.pr (RefAt c s) :: .pr (RHead (kn, kpv, .slice (some ⟨b0, 0, none⟩) kn.answers.length cap)) :: Γ) (.pt b0 false (.cells ⟨anFl kn.answers ++ slack⟩ 186 (0, 0)) :: refL c s y (kpC (kn, kpv, .slice (some ⟨b0, 0, none⟩) kn.answers.length cap) :: Γ)) :=
  Ent.trans (EntR.e (slp_fold b0 cap slack h)) (Ent.trans (Ent.perm (by
    refine (List.Perm.swap _ _ _).trans (.cons _ ?_)
    refine (List.Perm.swap _ _ _).trans (.cons _ ?_)
    refine (List.Perm.swap _ _ _).trans (.cons _ ?_)
    refine (List.Perm.swap _ _ _).trans (.cons _ ?_)
    refine (List.Perm.swap _ _ _).trans (.cons _ ?_)
    exact (List.Perm.swap _ _ _))) (EntR.e (rr_fold (z := (kn, kpv, .slice (some ⟨b0, 0, none⟩) kn.answers.length cap)) y ok)))

theorem slp_none' {p : Bool} {el m : Nat} {Γ : List Ch} : Ent Γ (.pr (SlP p el m (.slice none 0 0) [] 0) :: Γ) := .star fun h st => star_slp.2 (.inl ⟨rfl, rfl, rfl, slp_none st⟩)

theorem rot6 {α : Type} (x a b c d e f : α) (Γ : List α) : (x :: a :: b :: c :: d :: e :: f :: Γ).Perm (a :: b :: c :: d :: e :: f :: x :: Γ) := by
  refine (List.Perm.swap _ _ _).trans (.cons _ ?_)
  refine (List.Perm.swap _ _ _).trans (.cons _ ?_)
  refine (List.Perm.swap _ _ _).trans (.cons _ ?_)
  refine (List.Perm.swap _ _ _).trans (.cons _ ?_)
  refine (List.Perm.swap _ _ _).trans (.cons _ ?_)
  exact (List.Perm.swap _ _ _)

set_option maxHeartbeats 2000000 in
theorem rack_ok (c : Nat) (s : Cn) (q : Int) (z : RZ) (B : Nat) (Γ : List Ch) (ok0 : Ok B s) (hB : B < 100000000) (h2 : z.1.answers.length < 1000000000) :
    CallsX Try.prog 82 #[ptrV c, .int .u64 q, .agg ⟨hdC z⟩] (.pr (RefAt c s) :: .pr (RHead z) :: Γ)
      (fun v Δ => v = .int .i64 (ack s q z.1).2 ∧ Ent Δ (.pr (RefAt c (ack s q z.1).1) :: .pr (RHead z) :: Γ)) := by
  obtain ⟨kn, kpv, kav⟩ := z
  dsimp only at h2 ⊢
  have hcnt := ok0.count
  refine CallsX.open_ ref_open fun y ok => ?_
  obtain ⟨pv, av, hv, zs⟩ := y
  refine calls_of_body (args := [ptrV c, .int .u64 q, .agg ⟨hdC (kn, kpv, kav)⟩]) Try.func82 rfl Try.ntmps82 fun X cs ret => ?_
  dsimp only [refL]
  (refine Ex.front 5 ?_)
  refine Ex.ent rhead_open ?_
  dsimp only
  (refine Ex.front 1 ?_; refine Ex.front 1 ?_; refine Ex.front 6 ?_; refine Ex.front 6 ?_; refine Ex.front 6 ?_; refine Ex.front 6 ?_; refine Ex.front 6 ?_)
  refine ex_seq (rg_start_s (rg_boxAgg rfl fun b1 => ?_))
  repeat (first|refine zA rfl ?_|refine zC rfl ?_|refine zD rfl ?_|refine zE rfl ?_|refine zF rfl ?_|refine zG rfl ?_|refine zQ ?_|refine zR ?_|refine zS ?_)
  (refine Rg.front 1 ?_; refine Rg.front 1 ?_; refine Rg.front 2 ?_)
  refine rg_call rfl (rfind_ok true pv s.hd.packets q _ (by omega)) ?_
  rintro _ D ⟨rfl, hE⟩
  refine ⟨.inl rfl, Rg.ent hE ?_⟩
  (refine Rg.front 0 ?_; refine Rg.front 2 ?_; refine Rg.front 2 ?_)
  rcases hf : find s.hd.packets q 0 with _ | ⟨i, p⟩
  · have e : ack s q kn = (s, 10) := by rw [ack, hf]
    simp only [e] at ret
    rw [rfind_none hf]
    repeat (first|refine zA rfl ?_|refine zB rfl rfl rfl ?_|refine zG rfl ?_|refine zQ ?_|refine zR ?_|refine zS ?_|refine zU rfl ?_)
    exact ex_rete ret Try.func82 rfl (Ent.drop (EntR.e (rr_fold (z := (kn, kpv, kav)) ⟨pv, av, hv, zs⟩ ok))) ⟨rfl, Ent.refl _⟩
  rw [rfind_some hf]
  obtain ⟨_, hget, hlt, hseq⟩ := find_get hf
  rw [Nat.sub_zero] at hget hlt
  have hok := ok0.hd.packs p (List.mem_of_getElem? hget)
  repeat (first|refine zA rfl ?_|refine zB rfl rfl rfl ?_|refine zG rfl ?_|refine zQ ?_|refine zR ?_|refine zS ?_|refine zV rfl ?_|refine yB ?_)
  refine ex_cond_split rfl (fun g1 => ?_) (fun g1 => ?_)
  · have g1 := of_decide_eq_true g1
    have e : ack s q kn = (s, 9) := by rw [ack, hf]; exact if_pos (by omega)
    simp only [e] at ret
    repeat (first|refine zG rfl ?_|refine zQ ?_|refine zR ?_|refine zS ?_)
    exact ex_rete ret Try.func82 rfl (Ent.drop (EntR.e (rr_fold (z := (kn, kpv, kav)) ⟨pv, av, hv, zs⟩ ok))) ⟨rfl, Ent.refl _⟩
  have g1 := of_decide_eq_false g1
  have hi0 : i = 0 := by omega
  subst hi0
  have e0 : ack s q kn = (match findA kn.answers q with | none => (s, 12) | some a => (if a.good then { s with hd := { s.hd with packets := s.hd.packets.eraseIdx 0 } } else credit { s with hd := { s.hd with packets := s.hd.packets.eraseIdx 0 } } p.frm p.coin p.amount, 0)) := by
    rw [ack, hf]; exact if_neg (by omega)
  repeat (first|refine zR ?_|refine yB ?_)
  (refine Ex.front 2 ?_)
  refine ex_slp (p := true) (fun _ _ h => absurd h (by omega)) (fun bp pcap pslack hs hz => ?_)
  subst hs
  repeat (first|refine zA rfl ?_|refine zC rfl ?_|refine zD rfl ?_|refine zE rfl ?_|refine zF rfl ?_|refine zS ?_)
  refine rg_indexSl rfl rfl ⟨by omega, by omega⟩ ?_
  rw [Int.toNat_natCast, Nat.zero_add (0 * 7)]
  haveI := sliceL_flat pkC_len s.hd.packets 0 p hget pslack
  refine rg_loadAgg rfl ?_
  repeat (first|refine zO rfl rfl ?_|refine zQ ?_|refine zR ?_|refine zW fun bl=>?_)
  (refine Ex.front 1 ?_)
  refine Ex.ent (EntR.e (slp_fold bp pcap pslack hz)) ?_
  (refine Ex.front 7 ?_; refine Ex.front 7 ?_; refine Ex.front 7 ?_; refine Ex.front 7 ?_; refine Ex.front 4 ?_; refine Ex.front 7 ?_; refine Ex.front 7 ?_; refine Ex.front 7 ?_; refine Ex.front 8 ?_)
  refine ex_slp (fun h1 h2 h3 => ?_) (fun b0 cap slack hs hz0 => ?_)
  · subst h1
    have h0 : kn.answers = [] := List.length_eq_zero_iff.1 h3
    have e : ack s q kn = (s, 12) := by rw [e0, h0]; rfl
    simp only [e] at ret
    repeat (first|refine zA rfl ?_|refine zE rfl ?_|refine zF rfl ?_|refine zQ ?_|refine zS ?_|refine zZ rfl ?_|refine yC ?_)
    refine ex_loop ?_
    repeat (first|refine zB rfl rfl rfl ?_|refine zG rfl ?_|refine zQ ?_|refine zR ?_|refine zS ?_|refine zV rfl ?_|refine yE rfl ?_)
    refine ex_rete ret Try.func82 rfl (Ent.drop (Ent.drop (Ent.refl _))) ⟨rfl, ?_⟩
    refine Ent.trans (slp_none' (p := false) (el := 186) (m := 2)) ?_
    refine Ent.trans (Ent.perm (rot6 _ _ _ _ _ _ _ _)) ?_
    have := rr_fold (c := c) (s := s) (z := (kn, kpv, .slice none 0 0)) (Γ := Γ) ⟨.slice (some ⟨bp, 0, none⟩) s.hd.packets.length pcap, av, hv, zs⟩ ok
    dsimp only [kaC] at this
    rw [h0] at this
    exact EntR.e this
  · subst hs
    repeat (first|refine zA rfl ?_|refine zE rfl ?_|refine zF rfl ?_|refine zQ ?_|refine zS ?_|refine zZ rfl ?_|refine yC ?_)
    refine ex_loop ?_
    refine ex_ind (ι := Nat) (fun i => kn.answers.length + 1 - i) (fun i => [(33, .int .i64 i), (32, .int .i64 kn.answers.length), (31, .slice (some ⟨b0, 0, none⟩) kn.answers.length cap), (8, ptrV bl), (7, .int .i64 (0 : Nat)), (1, .int .u64 q), (0, ptrV c)])
      (fun _ => .pt b0 false (.cells ⟨anFl kn.answers ++ slack⟩ 186 (0, 0)) :: .pt bl true (.cells ⟨pkC p⟩ 49 (0, 0)) :: .pt b1 true (.cells ⟨hdC (kn, kpv, .slice (some ⟨b0, 0, none⟩) kn.answers.length cap)⟩ 129 (0, 0)) :: refL c s ⟨.slice (some ⟨bp, 0, none⟩) s.hd.packets.length pcap, av, hv, zs⟩ (kpC (kn, kpv, .slice (some ⟨b0, 0, none⟩) kn.answers.length cap) :: Γ))
      (fun i => i ≤ kn.answers.length ∧ findA kn.answers q = findA (kn.answers.drop i) q) 0 ⟨Nat.zero_le _, rfl⟩ ⟨rfl, rfl, rfl, rfl, rfl, rfl, rfl, trivial⟩ rfl (fun i hi IH => ?_)
    obtain ⟨hi1, hi2⟩ := hi
    repeat (first|refine zB rfl rfl rfl ?_|refine zQ ?_|refine zR ?_|refine zS ?_)
    refine ex_cond_split rfl (fun h1 => ?_) (fun h1 => ?_)
    · have hlt' : i < kn.answers.length := by have := of_decide_eq_true h1; omega
      repeat (first|refine zR ?_|refine zS ?_|refine yB ?_|refine yC ?_)
      refine rg_indexSl rfl rfl ⟨by omega, by omega⟩ ?_
      rw [Int.toNat_natCast, Nat.zero_add (i * 2)]
      haveI := sliceL_flat anC_len kn.answers i kn.answers[i] (List.getElem?_eq_getElem hlt') slack
      refine rg_loadAgg rfl ?_
      repeat (first|refine zA rfl ?_|refine zB rfl rfl rfl ?_|refine zD rfl ?_|refine zF rfl ?_|refine zO rfl rfl ?_|refine zQ ?_|refine zR ?_|refine zS ?_|refine zW fun bl=>?_)
      rw [List.drop_eq_getElem_cons hlt'] at hi2
      simp only [findA] at hi2
      refine ex_cond_split rfl (fun h2 => ?_) (fun h2 => ?_)
      · have h2 : kn.answers[i].seq ≠ q := by simpa using h2
        rw [if_neg h2] at hi2
        repeat (first|refine zA rfl ?_|refine zB rfl rfl rfl ?_|refine zQ ?_|refine zS ?_|refine yE rfl ?_)
        refine ex_inLoop ?_
        rw [rwrap (by omega)]
        refine Ex.drop ?_
        exact Ex.sup (IH (i + 1) ⟨by omega, hi2⟩ (by omega)) ⟨rfl, rfl, rfl, rfl, rfl, rfl, rfl, trivial⟩
      · have h2 : kn.answers[i].seq = q := by simpa using h2
        rw [if_pos h2] at hi2
        rw [hi2] at e0
        dsimp only at e0
        repeat (first|refine zA rfl ?_|refine zR ?_|refine zS ?_|refine yB ?_)
        (refine Rg.front 3 ?_; refine Rg.front 3 ?_; refine Rg.front 3 ?_; refine Rg.front 3 ?_; refine Rg.front 5 ?_; refine Rg.front 5 ?_)
        refine rg_call rfl (rgone_ok c 0 s _ av hv _ hlt (by omega)) ?_
        rintro _ D ⟨pv', rfl, hE⟩
        refine ⟨.inl rfl, Rg.ent hE ?_⟩
        have hfin : ∀ (s' : Cn) (pv' : Value), ack s q kn = (s', 0) → s'.heads = s.heads → Ent (.pt c true (.cells ⟨rcCells s' pv' av hv⟩ 132 (0, 0)) :: .pr (SlV 49 7 pv' (pkFl s'.hd.packets) s'.hd.packets.length) :: .pt b0 false (.cells ⟨anFl kn.answers ++ slack⟩ 186 (0, 0)) :: .pr (SlV 186 2 av (anFl s'.hd.answers) s'.hd.answers.length) ::
            .pr (SlV 129 6 hv (zs.flatMap hdC) zs.length) :: .pr (RHeads zs) :: kpC (kn, kpv, .slice (some ⟨b0, 0, none⟩) kn.answers.length cap) :: Γ) (.pr (RefAt c (ack s q kn).1) :: .pr (RHead (kn, kpv, .slice (some ⟨b0, 0, none⟩) kn.answers.length cap)) :: Γ) := fun s' pv' e hh => by
          rw [e]
          refine Ent.trans (front_ent 2) (rr_foldA (c := c) (s := s') ⟨pv', av, hv, zs⟩ ⟨by rw [hh]; exact ok.heads, ok.one⟩ b0 cap slack hz0)
        repeat (first|refine zE rfl ?_|refine zF rfl ?_|refine zJ rfl ?_|refine zQ ?_|refine zR ?_|refine zS ?_)
        rcases hg : kn.answers[i].good with _ | _
        · rw [hg] at e0
          simp only [Bool.false_eq_true, if_false] at e0
          simp only [e0] at ret hfin
          repeat (first|refine zA rfl ?_|refine zE rfl ?_|refine zF rfl ?_|refine zS ?_|refine zU rfl ?_)
          refine rg_call rfl (rcredit_ok c { s with hd := { s.hd with packets := s.hd.packets.eraseIdx 0 } } pv' av hv p.frm p.coin p.amount _ hok.frm hok.coin) ?_
          rintro _ _ ⟨rfl, rfl⟩
          refine ⟨.inl rfl, ?_⟩
          repeat (first|refine zG rfl ?_|refine zQ ?_|refine zR ?_|refine zS ?_)
          (refine Ex.front 3 ?_; refine Ex.front 2 ?_; refine Ex.front 2 ?_; refine Ex.front 5 ?_; refine Ex.front 5 ?_; refine Ex.front 5 ?_)
          exact ex_rete ret Try.func82 rfl (Ent.drop (Ent.drop (Ent.drop (Ent.refl _)))) ⟨rfl, hfin _ pv' rfl rfl⟩
        · rw [hg] at e0
          simp only [if_true] at e0
          simp only [e0] at ret hfin
          repeat (first|refine zG rfl ?_|refine zQ ?_|refine zR ?_|refine zS ?_|refine zV rfl ?_|refine yB ?_)
          (refine Ex.front 3 ?_; refine Ex.front 2 ?_; refine Ex.front 2 ?_; refine Ex.front 5 ?_; refine Ex.front 5 ?_; refine Ex.front 5 ?_)
          exact ex_rete ret Try.func82 rfl (Ent.drop (Ent.drop (Ent.drop (Ent.refl _)))) ⟨rfl, hfin _ pv' rfl rfl⟩
    · have hge : i = kn.answers.length := by have := of_decide_eq_false h1; omega
      subst hge
      rw [List.drop_length] at hi2
      have e : ack s q kn = (s, 12) := by rw [e0, hi2]; rfl
      simp only [e] at ret
      repeat (first|refine zG rfl ?_|refine zQ ?_|refine zR ?_|refine zS ?_|refine yE rfl ?_)
      (refine Ex.front 3 ?_; refine Ex.front 1 ?_; refine Ex.front 3 ?_; refine Ex.front 3 ?_)
      exact ex_rete ret Try.func82 rfl (Ent.drop (Ent.drop (EntR.e (rr_foldA ⟨.slice (some ⟨bp, 0, none⟩) s.hd.packets.length pcap, av, hv, zs⟩ (by exact ok) b0 cap slack hz0)))) ⟨rfl, Ent.refl _⟩

end Go.Br

namespace Go.Br
open Go Go.Lx Go.Proofs
open Go.Lx renaming rg_move → zA, rg_int → zB, rg_nilCheck → zC, rg_fieldAddr0 → zD, rg_fieldAddr → zE, rg_load → zF, rg_assign → zG, rg_loadAgg → zH, rg_extract → zI, rg_not → zJ, rg_pick → zK, rg_off → zL, rg_offU → zM, rg_store → zN, rg_storeAgg → zO, rg_convInt → zP, rg_done → zQ, ex_seq → zR, rg_start_s → zS, rg_start_d → zT, ex_cond_true → zU, ex_cond_false → zV, rg_alloc → zW, rg_boxAgg → zX, rg_build → zY, rg_lenSl → zZ, rg_lenMap → yA, ex_skip → yB, ex_block → yC, ex_inBlock → yD, ex_exit → yE, rg_caseG → yZ
set_option maxRecDepth 100000

set_option maxHeartbeats 2000000 in
theorem rback_ok (c : Nat) (s : Cn) (q : Int) (z : RZ) (cl : Bool) (B : Nat) (Γ : List Ch) (ok0 : Ok B s) (hB : B < 100000000) :
    CallsX Try.prog 83 #[ptrV c, .int .u64 q, .agg ⟨hdC z⟩, .bool cl] (.pr (RefAt c s) :: .pr (RHead z) :: Γ)
      (fun v Δ => v = .int .i64 (back s q z.1 cl).2 ∧ Ent Δ (.pr (RefAt c (back s q z.1 cl).1) :: .pr (RHead z) :: Γ)) := by
  obtain ⟨kn, kpv, kav⟩ := z
  dsimp only
  have hcnt := ok0.count
  refine CallsX.open_ ref_open fun y ok => ?_
  obtain ⟨pv, av, hv, zs⟩ := y
  refine calls_of_body (args := [ptrV c, .int .u64 q, .agg ⟨hdC (kn, kpv, kav)⟩, .bool cl]) Try.func83 rfl Try.ntmps83 fun X cs ret => ?_
  dsimp only [refL]
  refine ex_seq (rg_start_s (rg_boxAgg rfl fun b1 => ?_))
  repeat (first|refine zA rfl ?_|refine zC rfl ?_|refine zD rfl ?_|refine zE rfl ?_|refine zF rfl ?_|refine zG rfl ?_|refine zQ ?_|refine zR ?_|refine zS ?_)
  (refine Rg.front 1 ?_; refine Rg.front 1 ?_; refine Rg.front 2 ?_)
  refine rg_call rfl (rfind_ok true pv s.hd.packets q _ (by omega)) ?_
  rintro _ D ⟨rfl, hE⟩
  refine ⟨.inl rfl, Rg.ent hE ?_⟩
  (refine Rg.front 0 ?_; refine Rg.front 2 ?_; refine Rg.front 2 ?_)
  rcases hf : find s.hd.packets q 0 with _ | ⟨i, p⟩
  · have e : back s q kn cl = (s, 10) := by rw [back, hf]
    simp only [e] at ret
    rw [rfind_none hf]
    repeat (first|refine zA rfl ?_|refine zB rfl rfl rfl ?_|refine zG rfl ?_|refine zQ ?_|refine zR ?_|refine zS ?_|refine zU rfl ?_)
    exact ex_rete ret Try.func83 rfl (Ent.drop (ref_fold ⟨pv, av, hv, zs⟩ ok)) ⟨rfl, Ent.refl _⟩
  rw [rfind_some hf]
  obtain ⟨_, hget, hlt, hseq⟩ := find_get hf
  rw [Nat.sub_zero] at hget hlt
  have hok := ok0.hd.packs p (List.mem_of_getElem? hget)
  repeat (first|refine zG rfl ?_|refine zQ ?_|refine zR ?_)
  (refine Ex.front 2 ?_)
  refine ex_slp (p := true) (fun _ _ h => absurd h (by omega)) (fun bp pcap pslack hs hz => ?_)
  subst hs
  repeat (first|refine zA rfl ?_|refine zB rfl rfl rfl ?_|refine zC rfl ?_|refine zD rfl ?_|refine zE rfl ?_|refine zF rfl ?_|refine zQ ?_|refine zR ?_|refine zS ?_|refine zV rfl ?_|refine yB ?_)
  refine rg_indexSl rfl rfl ⟨by omega, by omega⟩ ?_
  rw [Int.toNat_natCast, Nat.zero_add (i * 7)]
  haveI := sliceL_flat pkC_len s.hd.packets i p hget pslack
  refine rg_loadAgg rfl ?_
  repeat (first|refine zO rfl rfl ?_|refine zQ ?_|refine zR ?_|refine zW fun bl=>?_)
  (refine Ex.front 1 ?_)
  refine Ex.ent (EntR.e (slp_fold bp pcap pslack hz)) ?_
  (refine Ex.front 0 ?_; refine Ex.front 3 ?_; refine Ex.front 3 ?_; refine Ex.front 3 ?_)
  have e0 : back s q kn cl = (if cl = true ∧ kn.opn = true then (s, 14) else if (cl = false ∧ due p kn.height kn.time = false) ∨ q < kn.nrecv then (s, 13) else
      ({ (credit { s with hd := { s.hd with packets := s.hd.packets.eraseIdx i } } p.frm p.coin p.amount) with hd := { (credit { s with hd := { s.hd with packets := s.hd.packets.eraseIdx i } } p.frm p.coin p.amount).hd with opn := false } }, 0)) := by rw [back, hf]
  apply join (¬ (cl = true ∧ kn.opn = true) ∧ ¬ ((cl = false ∧ due p kn.height kn.time = false) ∨ q < kn.nrecv))
  · intro J
    rcases cl with _ | _
    · repeat (first|refine zA rfl ?_|refine zD rfl ?_|refine zE rfl ?_|refine zF rfl ?_|refine zH rfl ?_|refine zJ rfl ?_|refine zK rfl rfl ?_|refine zL rfl rfl rfl rfl (by decide) trivial rfl ?_|refine zQ ?_|refine zR ?_|refine zS ?_|refine zV rfl ?_|refine yB ?_)
      refine rg_call rfl (rdue_ok p kn.height kn.time _) ?_
      rintro _ _ ⟨rfl, rfl⟩
      refine ⟨.inl rfl, ?_⟩
      rcases hd : due p kn.height kn.time with _ | _
      · have e : back s q kn false = (s, 13) := by rw [e0, if_neg (by simp), if_pos (.inl ⟨rfl, hd⟩)]
        simp only [e] at ret
        repeat (first|refine zA rfl ?_|refine zG rfl ?_|refine zJ rfl ?_|refine zK rfl rfl ?_|refine zL rfl rfl rfl rfl (by decide) trivial rfl ?_|refine zQ ?_|refine zR ?_|refine zS ?_|refine zU rfl ?_)
        exact ex_rete ret Try.func83 rfl (Ent.drop (Ent.drop (ref_fold ⟨.slice (some ⟨bp, 0, none⟩) s.hd.packets.length pcap, av, hv, zs⟩ ok))) ⟨rfl, Ent.refl _⟩
      · repeat (first|refine zA rfl ?_|refine zB rfl rfl rfl ?_|refine zE rfl ?_|refine zF rfl ?_|refine zJ rfl ?_|refine zK rfl rfl ?_|refine zQ ?_)
        refine ex_cond_split rfl (fun g1 => ?_) (fun g1 => ?_)
        · have g1 := of_decide_eq_true g1
          have e : back s q kn false = (s, 13) := by rw [e0, if_neg (by simp), if_pos (.inr g1)]
          simp only [e] at ret
          repeat (first|refine zG rfl ?_|refine zQ ?_|refine zR ?_|refine zS ?_)
          exact ex_rete ret Try.func83 rfl (Ent.drop (Ent.drop (ref_fold ⟨.slice (some ⟨bp, 0, none⟩) s.hd.packets.length pcap, av, hv, zs⟩ ok))) ⟨rfl, Ent.refl _⟩
        · have g1 : ¬ q < kn.nrecv := of_decide_eq_false g1
          repeat (first|refine zR ?_|refine yB ?_)
          exact Ex.sup (E' := [(10, ptrV bl), (9, .int .i64 i), (0, ptrV c)]) (J ⟨by simp, by simp [hd]; omega⟩) ⟨rfl, rfl, rfl, trivial⟩
    · repeat (first|refine zA rfl ?_|refine zE rfl ?_|refine zF rfl ?_|refine zK rfl rfl ?_|refine zQ ?_|refine zS ?_)
      refine ex_cond_split rfl (fun g1 => ?_) (fun g1 => ?_)
      · have e : back s q kn true = (s, 14) := by rw [e0, if_pos ⟨rfl, g1⟩]
        simp only [e] at ret
        repeat (first|refine zG rfl ?_|refine zQ ?_|refine zR ?_|refine zS ?_)
        exact ex_rete ret Try.func83 rfl (Ent.drop (Ent.drop (ref_fold ⟨.slice (some ⟨bp, 0, none⟩) s.hd.packets.length pcap, av, hv, zs⟩ ok))) ⟨rfl, Ent.refl _⟩
      · replace g1 : kn.opn = false := g1
        repeat (first|refine zA rfl ?_|refine zB rfl rfl rfl ?_|refine zE rfl ?_|refine zF rfl ?_|refine zJ rfl ?_|refine zK rfl rfl ?_|refine zL rfl rfl rfl rfl (by decide) trivial rfl ?_|refine zQ ?_|refine zR ?_|refine zS ?_|refine yB ?_)
        refine ex_cond_split rfl (fun g2 => ?_) (fun g2 => ?_)
        · have g2 := of_decide_eq_true g2
          have e : back s q kn true = (s, 13) := by rw [e0, if_neg (by simp [g1]), if_pos (.inr g2)]
          simp only [e] at ret
          repeat (first|refine zG rfl ?_|refine zQ ?_|refine zR ?_|refine zS ?_)
          exact ex_rete ret Try.func83 rfl (Ent.drop (Ent.drop (ref_fold ⟨.slice (some ⟨bp, 0, none⟩) s.hd.packets.length pcap, av, hv, zs⟩ ok))) ⟨rfl, Ent.refl _⟩
        · have g2 : ¬ q < kn.nrecv := of_decide_eq_false g2
          repeat (first|refine zR ?_|refine yB ?_)
          exact Ex.sup (E' := [(10, ptrV bl), (9, .int .i64 i), (0, ptrV c)]) (J ⟨by simp [g1], by simp; omega⟩) ⟨rfl, rfl, rfl, trivial⟩
  rintro ⟨g1, g2⟩
  rw [if_neg g1, if_neg g2] at e0
  simp only [e0] at ret
  repeat (first|refine zA rfl ?_|refine zS ?_)
  (refine Rg.front 1 ?_; refine Rg.front 1 ?_; refine Rg.front 3 ?_; refine Rg.front 3 ?_)
  refine rg_call rfl (rgone_ok c i s _ av hv _ hlt (by omega)) ?_
  rintro _ D ⟨pv', rfl, hE⟩
  refine ⟨.inl rfl, Rg.ent hE ?_⟩
  repeat (first|refine zA rfl ?_|refine zE rfl ?_|refine zF rfl ?_|refine zQ ?_|refine zR ?_|refine zS ?_)
  refine rg_call rfl (rcredit_ok c { s with hd := { s.hd with packets := s.hd.packets.eraseIdx i } } pv' av hv p.frm p.coin p.amount _ hok.frm hok.coin) ?_
  rintro _ _ ⟨rfl, rfl⟩
  refine ⟨.inl rfl, ?_⟩
  repeat (first|refine zA rfl ?_|refine zC rfl ?_|refine zD rfl ?_|refine zE rfl ?_|refine zG rfl ?_|refine zN rfl rfl ?_|refine zQ ?_|refine zR ?_|refine zS ?_)
  (refine Ex.front 1 ?_; refine Ex.front 1 ?_; refine Ex.front 3 ?_; refine Ex.front 3 ?_)
  refine ex_rete ret Try.func83 rfl (Ent.drop (Ent.drop (Ent.refl _))) ⟨rfl, ?_⟩
  exact EntR.e (ref_foldR ⟨pv', av, hv, zs⟩ (by exact ⟨ok.heads, ok.one⟩))

end Go.Br
