/-
  Lemmas towards the law, proved without conditions of their own: Contracts of small functions of package chain; Contracts: give, send of package chain; Contract of send of package chain; Contract of recv of package chain; Contract of timeout of package chain; Contract of ack of package chain; Contracts: maps.Clone at the two types of maps.
-/
import Derived.Test.YtedaknlacigbhaaPk09
import Derived.Test.YtedaknlacigbhaaPk06
namespace Go.Br
open Go Go.Lx Go.Proofs
open Go.Lx renaming rg_move → zA, rg_int → zB, rg_nilCheck → zC, rg_fieldAddr0 → zD, rg_fieldAddr → zE, rg_load → zF, rg_assign → zG, rg_loadAgg → zH, rg_extract → zI, rg_not → zJ, rg_pick → zK, rg_off → zL, rg_offU → zM, rg_store → zN, rg_storeAgg → zO, rg_convInt → zP, rg_done → zQ, ex_seq → zR, rg_start_s → zS, rg_start_d → zT, ex_cond_true → zU, ex_cond_false → zV, rg_alloc → zW, rg_boxAgg → zX, rg_build → zY, rg_lenSl → zZ, rg_lenMap → yA, ex_skip → yB, ex_block → yC, ex_inBlock → yD, ex_exit → yE, rg_caseG → yZ
set_option maxRecDepth 100000

theorem user_ok (m : Int) (Γ : List Ch) : CallsX Try.prog 84 #[.int .i64 m] Γ (fun v Δ => v = .bool (isUser m) ∧ Δ = Γ) := by
  refine calls_of_body (args := [.int .i64 m]) Try.func84 rfl Try.ntmps84 fun X cs ret => ?_
  repeat (first|refine zA rfl ?_|refine zB rfl rfl rfl ?_|refine zG rfl ?_|refine zQ ?_|refine zR ?_|refine zS ?_)
  refine rg_caseG rfl rfl (fun h => ?_) (fun h => ?_)
  all_goals
    repeat (first|refine zA rfl ?_|refine zB rfl rfl rfl ?_|refine zG rfl ?_|refine zK rfl rfl ?_|refine zL rfl rfl rfl rfl (by decide) trivial rfl ?_|refine zQ ?_)
    refine ex_retc ret Try.func84 rfl ⟨?_, rfl⟩
    simp only [isUser, h]; rfl

theorem due_ok (p : Pk) (h t : Int) (Γ : List Ch) : CallsX Try.prog 86 #[pkV p, .int .u64 h, .int .u64 t] Γ (fun v Δ => v = .bool (due p h t) ∧ Δ = Γ) := by
  refine calls_of_body (args := [pkV p, .int .u64 h, .int .u64 t]) Try.func86 rfl Try.ntmps86 fun X cs ret => ?_
  refine ex_seq (rg_start_s (rg_boxAgg rfl fun bl => ?_))
  repeat' (first|refine zA rfl ?_|refine zB rfl rfl rfl ?_|refine zE rfl ?_|refine zF rfl ?_|refine zG rfl ?_|refine zK rfl rfl ?_|refine zL rfl rfl rfl rfl (by decide) trivial rfl ?_|refine zM rfl rfl rfl rfl (by decide) trivial rfl ?_|refine zQ ?_|refine zR ?_|refine zS ?_|refine yZ rfl rfl (fun hg=>?_) (fun hg=>?_))
  all_goals
    refine ex_rete ret Try.func86 rfl (Ent.drop (Ent.refl Γ)) ⟨?_, rfl⟩
    simp [packV, due, *]

theorem take_ok (c pm : Nat) (p : Bool) (cells : List Value) (T : TypeId) (fz : Nat × Nat) (u co x : Int) (l : List UE) (ck : Nat) (has : Int → Int → Int) (Γ : List Ch) (hp : cells[3]? = some (.map (some pm))) (ok : PurseOK l ck has) :
    CallsX Try.prog 85 #[.pointer (some ⟨c, 0, none⟩), purse u co, .int .u64 x] (.pt c p (.cells ⟨cells⟩ T fz) :: .pt pm true (.map ⟨l.map uEnt⟩ ck) :: Γ)
      (fun v Δ => ∃ l' ck', PurseOK l' ck' (setHas has u co (wu (has u co - x))) ∧ v = .tuple #[] ∧ Δ = .pt c p (.cells ⟨cells⟩ T fz) :: .pt pm true (.map ⟨l'.map uEnt⟩ ck') :: Γ) := by
  refine calls_of_body (args := [.pointer (some ⟨c, 0, none⟩), purse u co, .int .u64 x]) Try.func85 rfl Try.ntmps85 fun X cs ret => ?_
  refine ex_seq (rg_start_s (rg_boxAgg rfl fun bl => ?_))
  repeat (first|refine zA rfl ?_|refine zC rfl ?_|refine zE rfl ?_|refine zQ ?_|refine zR ?_|refine zT (by decide+kernel) (by decide+kernel) ?_)
  obtain ⟨l1, e1, ok1, nxt⟩ := purse_ent ok u co
  obtain ⟨i, l2, f1, f2, ok2⟩ := nxt (wu (has u co - x))
  refine rg_load rfl ?_ hp
  repeat refine zH rfl ?_
  refine rg_lookup rfl rfl (keyOK_purse u co) (findK_purse u co l) (ok.val u co).symm ?_
  repeat (first|refine zA rfl ?_|refine zB rfl rfl rfl ?_)
  refine rg_mapEntry rfl rfl (keyOK_purse u co) (findK_purse u co l) (findU_same u co l) ?_ ?_
  · rw [e1]
    exact .inr ⟨.inr ⟨_, _, _, _, _, Find.mem, findK_purse u co l1, (ok1.val u co).symm, rfl⟩, .inl (by decide +kernel), .inl (by decide +kernel), trivial⟩
  rw [e1]
  repeat refine zI rfl rfl ?_
  refine rg_entryStore rfl rfl rfl f1 ?_
  rw [f2]
  repeat (first|refine zA rfl ?_|refine zC rfl ?_|refine zE rfl ?_|refine zQ ?_|refine zR ?_|refine zT (by decide+kernel) (by decide+kernel) ?_)
  refine rg_load rfl ?_ hp
  repeat refine zH rfl ?_
  refine rg_lookup rfl rfl (keyOK_purse u co) (findK_purse u co l2) (ok2.val u co).symm ?_
  repeat (first|refine zB rfl rfl rfl ?_|refine zQ ?_)
  have hval : setHas has u co (wu (has u co - x)) u co = wu (has u co - x) := by simp [setHas]
  rw [hval]
  refine ex_cond_split rfl (fun h => ?_) (fun h => ?_)
  · obtain ⟨l3, g1, ok3⟩ := purse_del ok2 u co (by rw [hval]; exact of_decide_eq_true h)
    repeat (first|refine zA rfl ?_|refine zC rfl ?_|refine zE rfl ?_|refine zT (by decide+kernel) (by decide+kernel) ?_)
    refine rg_load rfl ?_ hp
    repeat refine zH rfl ?_
    refine rg_delete rfl rfl (keyOK_purse u co) (findK_purse u co l2) ?_
    rw [g1]
    repeat refine zQ ?_
    exact ex_ende ret Try.func85 rfl (Ent.drop (Ent.refl _)) ⟨l3, _, ok3, rfl, rfl⟩
  · repeat refine yB ?_
    exact ex_ende ret Try.func85 rfl (Ent.drop (Ent.refl _)) ⟨l2, _, ok2, rfl, rfl⟩

end Go.Br

namespace Go.Br
open Go Go.Lx Go.Proofs
open Go.Lx renaming rg_move → zA, rg_int → zB, rg_nilCheck → zC, rg_fieldAddr0 → zD, rg_fieldAddr → zE, rg_load → zF, rg_assign → zG, rg_loadAgg → zH, rg_extract → zI, rg_not → zJ, rg_pick → zK, rg_off → zL, rg_offU → zM, rg_store → zN, rg_storeAgg → zO, rg_convInt → zP, rg_done → zQ, ex_seq → zR, rg_start_s → zS, rg_start_d → zT, ex_cond_true → zU, ex_cond_false → zV, rg_alloc → zW, rg_boxAgg → zX, rg_build → zY, rg_lenSl → zZ, rg_lenMap → yA, ex_skip → yB, ex_block → yC, ex_inBlock → yD, ex_exit → yE, rg_caseG → yZ
set_option maxRecDepth 100000

theorem give_ok (c pm pd am kp : Nat) (hs : Value) (s : Cn) (u co x : Int) (l : List UE) (ck : Nat) (Γ : List Ch) (ok : PurseOK l ck s.has) :
    CallsX Try.prog 87 #[.pointer (some ⟨c, 0, none⟩), .int .i64 u, .int .i64 co, .int .u64 x] (.pt c true (.cells ⟨cnCells s pm pd am hs kp⟩ 148 (0, 0)) :: .pt pm true (.map ⟨l.map uEnt⟩ ck) :: Γ)
      (fun v Δ => ∃ l' ck', PurseOK l' ck' (credit s u co x).has ∧ v = .tuple #[] ∧ Δ = .pt c true (.cells ⟨cnCells (credit s u co x) pm pd am hs kp⟩ 148 (0, 0)) :: .pt pm true (.map ⟨l'.map uEnt⟩ ck') :: Γ) := by
  refine calls_of_body (args := [.pointer (some ⟨c, 0, none⟩), .int .i64 u, .int .i64 co, .int .u64 x]) Try.func87 rfl Try.ntmps87 fun X cs ret => ?_
  obtain ⟨l1, e1, ok1, nxt⟩ := purse_ent ok u co
  obtain ⟨i, l2, f1, f2, ok2⟩ := nxt (wu (s.has u co + x))
  repeat (first|refine zA rfl ?_|refine zC rfl ?_|refine zE rfl ?_|refine zF rfl ?_|refine zR ?_|refine zT (by decide+kernel) (by decide+kernel) ?_|refine zY rfl ?_)
  refine rg_lookup rfl rfl (keyOK_purse u co) (findK_purse u co l) (ok.val u co).symm ?_
  repeat (first|refine zA rfl ?_|refine zB rfl rfl rfl ?_)
  refine rg_mapEntry rfl rfl (keyOK_purse u co) (findK_purse u co l) (findU_same u co l) ?_ ?_
  · rw [e1]
    exact .inr ⟨.inr ⟨_, _, _, _, _, Find.mem, findK_purse u co l1, (ok1.val u co).symm, rfl⟩, .inl (by decide +kernel), trivial⟩
  rw [e1]
  repeat refine zI rfl rfl ?_
  refine rg_entryStore rfl rfl rfl f1 ?_
  rw [f2]
  repeat (first|refine zA rfl ?_|refine zB rfl rfl rfl ?_|refine zC rfl ?_|refine zD rfl ?_|refine zF rfl ?_|refine zQ ?_|refine zR ?_|refine zS ?_)
  refine ex_cond_split rfl (fun h => ?_) (fun h => ?_)
  · have h := of_decide_eq_true h
    repeat (first|refine zA rfl ?_|refine zB rfl rfl rfl ?_|refine zC rfl ?_|refine zE rfl ?_|refine zF rfl ?_|refine zN rfl rfl ?_|refine zQ ?_|refine zS ?_)
    exact ex_ende ret Try.func87 rfl (Ent.refl _) ⟨l2, _, ok2, rfl, by simp [credit, h]⟩
  · have h := of_decide_eq_false h
    repeat (first|refine zA rfl ?_|refine zB rfl rfl rfl ?_|refine zC rfl ?_|refine zE rfl ?_|refine zF rfl ?_|refine zN rfl rfl ?_|refine zQ ?_|refine zS ?_)
    exact ex_ende ret Try.func87 rfl (Ent.refl _) ⟨l2, _, ok2, rfl, by simp [credit, h]⟩

end Go.Br

namespace Go.Br
open Go Go.Lx Go.Proofs
open Go.Lx renaming rg_move → zA, rg_int → zB, rg_nilCheck → zC, rg_fieldAddr0 → zD, rg_fieldAddr → zE, rg_load → zF, rg_assign → zG, rg_loadAgg → zH, rg_extract → zI, rg_not → zJ, rg_pick → zK, rg_off → zL, rg_offU → zM, rg_store → zN, rg_storeAgg → zO, rg_convInt → zP, rg_done → zQ, ex_seq → zR, rg_start_s → zS, rg_start_d → zT, ex_cond_true → zU, ex_cond_false → zV, rg_alloc → zW, rg_boxAgg → zX, rg_build → zY, rg_lenSl → zZ, rg_lenMap → yA, ex_skip → yB, ex_block → yC, ex_inBlock → yD, ex_exit → yE, rg_caseG → yZ
set_option maxRecDepth 100000

theorem find_none {q : Int} : ∀ (l : List Pk) (i : Nat), (∀ p ∈ l, p.seq < q) → find l q i = none := by
  intro l
  induction l with
  | nil => intro i _; rfl
  | cons p l ih =>
    intro i h
    have := h p (List.mem_cons_self ..)
    simp only [find]
    rw [if_neg (by omega)]
    exact ih _ fun x hx => h x (List.mem_cons_of_mem _ hx)

theorem wu_in {x : Int} (h : 0 ≤ x ∧ x < 18446744073709551616) : wu x = x := by
  have h1 : x % 2 ^ 64 = x := by omega
  simp only [wu, IntKind.wrap, IntKind.bits, IntKind.signed, h1, Bool.false_and, Bool.false_eq_true, if_false]

theorem pEs_snoc (l : List Pk) (p : Pk) (n : Int) (ck : Nat) (h : ck = (p.seq - 1).toNat) (hn : (n - 1).toNat = ck + 1) : (pEs l ++ [⟨.int .u64 p.seq, pkV p, ck⟩], ck + 1) = (pEs (l ++ [p]), (n - 1).toNat) := by
  rw [hn]; simp [pEs, pI, ient, h]

set_option maxHeartbeats 1000000 in
theorem send_ok (c : Nat) (s : Cn) (kn : Hd) (p : Pk) (B : Nat) (Γ : List Ch) (ok : Ok B s) (hB : B < 1000000000) :
    CallsX Try.prog 70 #[.pointer (some ⟨c, 0, none⟩), pkV p] (.pr (ChainAt c s kn) :: Γ)
      (fun v Δ => v = .tuple #[.int .u64 (send s p).2.1, .int .i64 (send s p).2.2] ∧ Δ = .pr (ChainAt c (send s p).1 kn) :: Γ) := by
  refine CallsX.open_ chain_open fun y oky => ?_
  refine calls_of_body (args := [.pointer (some ⟨c, 0, none⟩), pkV p]) Try.func70 rfl Try.ntmps70 fun X cs ret => ?_
  refine ex_seq (rg_start_s (rg_boxAgg rfl fun b1 => ?_))
  repeat (first|refine zA rfl ?_|refine zC rfl ?_|refine zD rfl ?_|refine zE rfl ?_|refine zF rfl ?_|refine zG rfl ?_|refine zJ rfl ?_|refine zO rfl rfl ?_|refine zQ ?_|refine zR ?_|refine zS ?_|refine zW fun bl=>?_|refine zY rfl ?_|refine yC ?_)
  refine ex_cond_split rfl (fun h1 => ?_) (fun h1 => ?_)
  · have e : send s p = (s, 0, 2) := by simp at h1; simp [send, h1]
    simp only [e] at ret
    repeat (first|refine zG rfl ?_|refine zQ ?_|refine zR ?_|refine zS ?_)
    exact ex_rete ret Try.func70 rfl (Ent.drop (Ent.drop (chain_shut y oky))) ⟨rfl, rfl⟩
  replace h1 : s.hd.opn = true := by simpa using h1
  repeat (first|refine zE rfl ?_|refine zF rfl ?_|refine zR ?_|refine zS ?_)
  refine rg_call rfl (user_ok _ _) ?_
  rintro _ _ ⟨rfl, rfl⟩
  refine ⟨.inl rfl, ?_⟩
  repeat (first|refine zG rfl ?_|refine zJ rfl ?_|refine zQ ?_)
  refine ex_cond_split rfl (fun h2 => ?_) (fun h2 => ?_)
  · have e : send s p = (s, 0, 3) := by simp at h2; simp [send, h1, h2]
    simp only [e] at ret
    repeat (first|refine zG rfl ?_|refine zQ ?_|refine zR ?_|refine zS ?_)
    exact ex_rete ret Try.func70 rfl (Ent.drop (Ent.drop (chain_shut y oky))) ⟨rfl, rfl⟩
  replace h2 : isUser p.frm = true := by simpa using h2
  apply join (p.coin = 0 ∨ p.coin = 1)
  · intro J
    repeat (first|refine zA rfl ?_|refine zB rfl rfl rfl ?_|refine zE rfl ?_|refine zF rfl ?_|refine zR ?_|refine zS ?_)
    refine rg_caseG rfl rfl (fun h3 => ?_) (fun h3 => ?_)
    · repeat (first|refine zB rfl rfl rfl ?_|refine zE rfl ?_|refine zF rfl ?_|refine zG rfl ?_|refine zK rfl rfl ?_|refine zQ ?_)
      have h3 : ¬ p.coin = 0 := by simpa using h3
      refine ex_cond_split rfl (fun h4 => ?_) (fun h4 => ?_)
      · have h4 : ¬ p.coin = 1 := by simpa using h4
        have e : send s p = (s, 0, 4) := by simp [send, h1, h2, h3, h4]
        simp only [e] at ret
        repeat (first|refine zG rfl ?_|refine zQ ?_|refine zR ?_|refine zS ?_)
        exact ex_rete ret Try.func70 rfl (Ent.drop (Ent.drop (chain_shut y oky))) ⟨rfl, rfl⟩
      · have h4 : p.coin = 1 := by simpa using h4
        repeat (first|refine zB rfl rfl rfl ?_|refine zE rfl ?_|refine zF rfl ?_|refine zG rfl ?_|refine zQ ?_|refine zR ?_|refine zS ?_)
        exact Ex.sup (E' := [(33, .bool (decide (p.amount = 0))), (6, ptrV bl), (3, ptrV b1), (0, ptrV c)]) (J (.inr h4)) ⟨rfl, rfl, rfl, rfl, trivial⟩
    · have h3 : p.coin = 0 := by simpa using h3
      repeat (first|refine zB rfl rfl rfl ?_|refine zE rfl ?_|refine zF rfl ?_|refine zG rfl ?_|refine zK rfl rfl ?_|refine zL rfl rfl rfl rfl (by decide) trivial rfl ?_|refine zQ ?_|refine zR ?_|refine zS ?_|refine zV rfl ?_)
      exact Ex.sup (E' := [(33, .bool (decide (p.amount = 0))), (6, ptrV bl), (3, ptrV b1), (0, ptrV c)]) (J (.inl h3)) ⟨rfl, rfl, rfl, rfl, trivial⟩
  intro hco
  have hco' : ¬ (p.coin ≠ 0 ∧ p.coin ≠ 1) := by omega
  refine ex_cond_split rfl (fun h3 => ?_) (fun h3 => ?_)
  · have e : send s p = (s, 0, 5) := by rw [send, if_neg (by simp [h1]), if_neg (by simp [h2]), if_neg hco', if_pos (of_decide_eq_true h3)]
    simp only [e] at ret
    repeat (first|refine zG rfl ?_|refine zQ ?_|refine zR ?_|refine zS ?_)
    exact ex_rete ret Try.func70 rfl (Ent.drop (Ent.drop (chain_shut y oky))) ⟨rfl, rfl⟩
  replace h3 := of_decide_eq_false h3
  repeat (first|refine zA rfl ?_|refine zC rfl ?_|refine zE rfl ?_|refine zF rfl ?_|refine zH rfl ?_|refine zR ?_|refine zT (by decide+kernel) (by decide+kernel) ?_)
  refine rg_lookup rfl rfl (keyOK_purse p.frm p.coin) (findK_purse p.frm p.coin y.l) (oky.val p.frm p.coin).symm ?_
  repeat (first|refine zB rfl rfl rfl ?_|refine zE rfl ?_|refine zF rfl ?_|refine zG rfl ?_|refine zQ ?_)
  refine ex_cond_split rfl (fun h4 => ?_) (fun h4 => ?_)
  · have e : send s p = (s, 0, 6) := by rw [send, if_neg (by simp [h1]), if_neg (by simp [h2]), if_neg hco', if_neg h3, if_pos (of_decide_eq_true h4)]
    simp only [e] at ret
    repeat (first|refine zG rfl ?_|refine zQ ?_|refine zR ?_|refine zS ?_)
    exact ex_rete ret Try.func70 rfl (Ent.drop (Ent.drop (chain_shut y oky))) ⟨rfl, rfl⟩
  replace h4 := of_decide_eq_false h4
  apply join (¬ (p.height = 0 ∧ p.time = 0))
  · intro J
    repeat (first|refine zA rfl ?_|refine zB rfl rfl rfl ?_|refine zE rfl ?_|refine zF rfl ?_|refine zR ?_|refine zS ?_)
    refine rg_caseG rfl rfl (fun h5 => ?_) (fun h5 => ?_)
    · repeat (first|refine zB rfl rfl rfl ?_|refine zE rfl ?_|refine zF rfl ?_|refine zG rfl ?_|refine zK rfl rfl ?_|refine zQ ?_)
      have h5 := of_decide_eq_true h5
      refine ex_cond_split rfl (fun h6 => ?_) (fun h6 => ?_)
      · have h6 := of_decide_eq_true h6
        have e : send s p = (s, 0, 7) := by rw [send, if_neg (by simp [h1]), if_neg (by simp [h2]), if_neg hco', if_neg h3, if_neg h4, if_pos ⟨h5, h6⟩]
        simp only [e] at ret
        repeat (first|refine zG rfl ?_|refine zQ ?_|refine zR ?_|refine zS ?_)
        exact ex_rete ret Try.func70 rfl (Ent.drop (Ent.drop (chain_shut y oky))) ⟨rfl, rfl⟩
      · have h6 := of_decide_eq_false h6
        repeat (first|refine zA rfl ?_|refine zE rfl ?_|refine zF rfl ?_|refine zH rfl ?_|refine zR ?_|refine zS ?_|refine yB ?_|refine yD ?_)
        exact Rg.supE (E' := [(59, .int .u64 p.amount), (57, purse p.frm p.coin), (56, ptrV c), (6, ptrV bl), (3, ptrV b1), (0, ptrV c)]) (J (fun e => h6 e.2)) ⟨rfl, rfl, rfl, rfl, rfl, rfl, trivial⟩
    · have h5 := of_decide_eq_false h5
      repeat (first|refine zA rfl ?_|refine zE rfl ?_|refine zF rfl ?_|refine zG rfl ?_|refine zH rfl ?_|refine zK rfl rfl ?_|refine zL rfl rfl rfl rfl (by decide) trivial rfl ?_|refine zQ ?_|refine zR ?_|refine zS ?_|refine zV rfl ?_|refine yB ?_|refine yD ?_)
      exact Rg.supE (E' := [(59, .int .u64 p.amount), (57, purse p.frm p.coin), (56, ptrV c), (6, ptrV bl), (3, ptrV b1), (0, ptrV c)]) (J (fun e => h5 e.1)) ⟨rfl, rfl, rfl, rfl, rfl, rfl, trivial⟩
  intro hdue
  (refine Rg.front 3 ?_; refine Rg.front 3 ?_)
  refine rg_call rfl (take_ok c y.pm true _ _ _ p.frm p.coin p.amount y.l y.ck s.has _ rfl oky) ?_
  rintro _ _ ⟨l', ck', ok', rfl, rfl⟩
  refine ⟨.inl rfl, ?_⟩
  repeat (first|refine zA rfl ?_|refine zB rfl rfl rfl ?_|refine zC rfl ?_|refine zD rfl ?_|refine zE rfl ?_|refine zF rfl ?_|refine zQ ?_|refine zR ?_|refine zT (by decide+kernel) (by decide+kernel) ?_)
  have hbn := ok.nsend
  have hn : find s.hd.packets s.nsend 0 = none := find_none _ _ ok.below
  have hf : FindK Try.prog 36 (.int .u64 s.nsend) (pEs s.hd.packets) none := by have := findK_pk s.nsend s.hd.packets; rw [hn] at this; exact this
  have hw : wu (s.nsend + 1) = s.nsend + 1 := wu_in (by omega)
  have hes := pEs_snoc s.hd.packets { p with seq := s.nsend } (wu (s.nsend + 1)) (s.nsend - 1).toNat rfl (by rw [hw]; omega)
  have h0 : send s p = ({ s with has := setHas s.has p.frm p.coin (wu (s.has p.frm p.coin - p.amount)), locked := if p.coin = s.n then wu (s.locked + p.amount) else s.locked, about := if p.coin = s.n then s.about else wu (s.about - p.amount), hd := { s.hd with packets := s.hd.packets ++ [{ p with seq := s.nsend }] }, nsend := wu (s.nsend + 1) }, s.nsend, 0) := by
    rw [send, if_neg (by simp [h1]), if_neg (by simp [h2]), if_neg hco', if_neg h3, if_neg h4, if_neg hdue]
  have e1 := congrArg Prod.fst hes
  have e2 := congrArg Prod.snd hes
  simp only [] at e1 e2
  refine ex_cond_split rfl (fun h => ?_) (fun h => ?_)
  · have h := of_decide_eq_true h
    rw [if_pos h, if_pos h] at h0
    simp only [h0] at ret
    repeat (first|refine zA rfl ?_|refine zB rfl rfl rfl ?_|refine zC rfl ?_|refine zD rfl ?_|refine zE rfl ?_|refine zF rfl ?_|refine zH rfl ?_|refine zN rfl rfl ?_|refine zQ ?_|refine zR ?_|refine zS ?_|refine zT (by decide+kernel) (by decide+kernel) ?_)
    refine rg_mapUpdate rfl rfl rfl keyOK_int hf (fun _ _ e => by cases e) ?_
    simp only [updE]
    rw [e1, e2]
    repeat (first|refine zA rfl ?_|refine zB rfl rfl rfl ?_|refine zC rfl ?_|refine zD rfl ?_|refine zE rfl ?_|refine zF rfl ?_|refine zG rfl ?_|refine zN rfl rfl ?_|refine zQ ?_|refine zR ?_|refine zS ?_)
    (refine Ex.front 8 ?_; refine Ex.front 8 ?_; refine Ex.front 8 ?_; refine Ex.front 8 ?_; refine Ex.front 8 ?_; refine Ex.front 6 ?_; refine Ex.front 6 ?_)
    refine ex_rete ret Try.func70 rfl ?_ ⟨rfl, rfl⟩
    apply Ent.snd; apply Ent.snd
    exact EntR.e (chain_fold { y with l := l', ck := ck' } (by exact ok'))
  · have h := of_decide_eq_false h
    rw [if_neg h, if_neg h] at h0
    simp only [h0] at ret
    repeat (first|refine zA rfl ?_|refine zB rfl rfl rfl ?_|refine zC rfl ?_|refine zD rfl ?_|refine zE rfl ?_|refine zF rfl ?_|refine zH rfl ?_|refine zN rfl rfl ?_|refine zQ ?_|refine zR ?_|refine zS ?_|refine zT (by decide+kernel) (by decide+kernel) ?_)
    refine rg_mapUpdate rfl rfl rfl keyOK_int hf (fun _ _ e => by cases e) ?_
    simp only [updE]
    rw [e1, e2]
    repeat (first|refine zA rfl ?_|refine zB rfl rfl rfl ?_|refine zC rfl ?_|refine zD rfl ?_|refine zE rfl ?_|refine zF rfl ?_|refine zG rfl ?_|refine zN rfl rfl ?_|refine zQ ?_|refine zR ?_|refine zS ?_)
    (refine Ex.front 8 ?_; refine Ex.front 8 ?_; refine Ex.front 8 ?_; refine Ex.front 8 ?_; refine Ex.front 8 ?_; refine Ex.front 6 ?_; refine Ex.front 6 ?_)
    refine ex_rete ret Try.func70 rfl ?_ ⟨rfl, rfl⟩
    apply Ent.snd; apply Ent.snd
    exact EntR.e (chain_fold { y with l := l', ck := ck' } (by exact ok'))

end Go.Br

namespace Go.Br
open Go Go.Lx Go.Proofs
open Go.Lx renaming rg_move → zA, rg_int → zB, rg_nilCheck → zC, rg_fieldAddr0 → zD, rg_fieldAddr → zE, rg_load → zF, rg_assign → zG, rg_loadAgg → zH, rg_extract → zI, rg_not → zJ, rg_pick → zK, rg_off → zL, rg_offU → zM, rg_store → zN, rg_storeAgg → zO, rg_convInt → zP, rg_done → zQ, ex_seq → zR, rg_start_s → zS, rg_start_d → zT, ex_cond_true → zU, ex_cond_false → zV, rg_alloc → zW, rg_boxAgg → zX, rg_build → zY, rg_lenSl → zZ, rg_lenMap → yA, ex_skip → yB, ex_block → yC, ex_inBlock → yD, ex_exit → yE, rg_caseG → yZ
set_option maxRecDepth 100000

theorem findI_none (q : Int) : ∀ (l : List Ans) (i : Nat), (∀ a ∈ l, a.seq ≠ q) → findI (l.map aI) q i = none := by
  intro l
  induction l with
  | nil => intro i _; rfl
  | cons a l ih =>
    intro i h
    have := h a (List.mem_cons_self ..)
    simp only [List.map_cons, findI, aI]
    rw [if_neg (fun e => this e.symm)]
    exact ih _ fun x hx => h x (List.mem_cons_of_mem _ hx)

theorem findI_last (q : Int) (a : Ans) (ha : a.seq = q) : ∀ (l : List Ans) (i : Nat), (∀ a ∈ l, a.seq ≠ q) → findI ((l ++ [a]).map aI) q i = some (i + l.length, (aI a).2.1) := by
  intro l
  induction l with
  | nil => intro i _; simp [findI, aI, ha]
  | cons b l ih =>
    intro i h
    have := h b (List.mem_cons_self ..)
    simp only [List.cons_append, List.map_cons, findI]
    rw [if_neg (fun e => this e.symm), ih _ fun x hx => h x (List.mem_cons_of_mem _ hx), List.length_cons]
    simp only [Option.some.injEq, Prod.mk.injEq, and_true]; omega

theorem ans_lt {B : Nat} {x : Hd} (ok : OkHd B x) : ∀ a ∈ x.answers, a.seq ≠ x.nrecv := fun a m => by
  obtain ⟨i, hi, e⟩ := List.getElem_of_mem m
  have := ok.answers i a (by rw [List.getElem?_eq_getElem hi, e])
  have := ok.nrecv
  omega

/-- The answers' map after an answer. -/
theorem aEs_put {B : Nat} {x : Hd} (ok : OkHd B x) {q : Int} (hq : q = x.nrecv) : updE (aEs x.answers) x.answers.length (.int .u64 q) (.int .i64 2) none = (aEs (x.answers ++ [⟨q, false⟩]), (x.answers ++ [(⟨q, false⟩ : Ans)]).length) := by
  have := ok.nrecv
  have e : (q - 1).toNat = x.answers.length := by omega
  simp [updE, aEs, aI, ient, e]

theorem aEs_good {B : Nat} {x : Hd} (ok : OkHd B x) {q : Int} (ck : Nat) (hq : q = x.nrecv) : updE (aEs (x.answers ++ [⟨q, false⟩])) ck (.int .u64 q) (.int .i64 1) (some (x.answers.length, (.int .i64 2 : Value))) = (aEs (x.answers ++ [⟨q, true⟩]), ck) := by
  simp [updE, aEs, aI, ient, List.modify_eq_set]

def zPk : Pk := ⟨0, 0, 0, 0, 0, 0, 0⟩
def pkOf (l : List Pk) (q : Int) : Pk := ((find l q 0).map (·.2)).getD zPk
/-- A packet is pending no more. -/
def gone (l : List Pk) (q : Int) : List Pk := match find l q 0 with | some (i, _) => l.eraseIdx i | none => l
theorem pkOf_val (l : List Pk) (q : Int) : (((find l q 0).map fun (i, p) => (i, pkV p)).map (·.2)).getD (pkV zPk) = pkV (pkOf l q) := by
  unfold pkOf; cases find l q 0 <;> rfl
theorem pkOf_some (l : List Pk) (q : Int) : ((find l q 0).map fun (i, p) => (i, pkV p)).isSome = (find l q 0).isSome := by
  cases find l q 0 <;> rfl

theorem recv_eq (s : Cn) (q : Int) (kn : Hd) : recv s q kn =
    if s.hd.opn = false then (s, 2) else if q ≠ s.hd.nrecv then (s, 9) else if (find kn.packets q 0).isSome = false then (s, 10)
    else if due (pkOf kn.packets q) s.hd.height s.hd.time then (s, 11)
    else if isUser (pkOf kn.packets q).to then (credit { s with hd := { s.hd with nrecv := wu (s.hd.nrecv + 1), answers := s.hd.answers ++ [⟨q, true⟩] } } (pkOf kn.packets q).to (pkOf kn.packets q).coin (pkOf kn.packets q).amount, 0)
    else ({ s with hd := { s.hd with nrecv := wu (s.hd.nrecv + 1), answers := s.hd.answers ++ [⟨q, false⟩] } }, 0) := by
  unfold recv pkOf
  split
  · rfl
  split
  · rfl
  cases h : find kn.packets q 0 with
  | none => simp
  | some x =>
    simp only [Option.isSome_some, Bool.true_eq_false, if_false, Option.map_some, Option.getD_some]
    split
    · rfl
    cases isUser x.2.to <;> simp

set_option maxHeartbeats 1000000 in
theorem recv_ok (c : Nat) (s : Cn) (kn : Hd) (q : Int) (B : Nat) (Γ : List Ch) (ok : Ok B s) (okk : OkHd B kn) (hB : B < 1000000000) :
    CallsX Try.prog 71 #[.pointer (some ⟨c, 0, none⟩), .int .u64 q] (.pr (ChainAt c s kn) :: Γ)
      (fun v Δ => v = .int .i64 (recv s q kn).2 ∧ Δ = .pr (ChainAt c (recv s q kn).1 kn) :: Γ) := by
  refine CallsX.open_ chainH_open fun (y, z) oky => ?_
  dsimp only at oky ⊢
  refine calls_of_body (args := [.pointer (some ⟨c, 0, none⟩), .int .u64 q]) Try.func71 rfl Try.ntmps71 fun X cs ret => ?_
  repeat (first|refine zA rfl ?_|refine zC rfl ?_|refine zE rfl ?_|refine zF rfl ?_|refine zG rfl ?_|refine zQ ?_|refine zR ?_|refine zS ?_)
  refine rg_lookup2 rfl rfl keyOK_int (findK_pk q kn.packets) (pkOf_val kn.packets q) (pkOf_some kn.packets q) ?_
  repeat (first|refine zA rfl ?_|refine zC rfl ?_|refine zD rfl ?_|refine zE rfl ?_|refine zF rfl ?_|refine zG rfl ?_|refine zI rfl rfl ?_|refine zJ rfl ?_|refine zO rfl rfl ?_|refine zQ ?_|refine zR ?_|refine zS ?_|refine zW fun bl=>?_|refine yC ?_)
  have e0 := recv_eq s q kn
  refine ex_cond_split rfl (fun h1 => ?_) (fun h1 => ?_)
  · replace h1 : s.hd.opn = false := by simpa using h1
    rw [if_pos h1] at e0
    simp only [e0] at ret
    repeat (first|refine zG rfl ?_|refine zQ ?_|refine zR ?_|refine zS ?_)
    exact ex_rete ret Try.func71 rfl (Ent.drop (EntR.e (chainH_fold y z (by exact oky)))) ⟨rfl, rfl⟩
  replace h1 : ¬ s.hd.opn = false := by simpa using h1
  rw [if_neg h1] at e0
  repeat (first|refine zA rfl ?_|refine zB rfl rfl rfl ?_|refine zC rfl ?_|refine zE rfl ?_|refine zF rfl ?_|refine zG rfl ?_|refine zQ ?_|refine zR ?_|refine zS ?_)
  refine ex_cond_split rfl (fun h2 => ?_) (fun h2 => ?_)
  · replace h2 : q ≠ s.hd.nrecv := by simpa using h2
    rw [if_pos h2] at e0
    simp only [e0] at ret
    repeat (first|refine zG rfl ?_|refine zQ ?_|refine zR ?_|refine zS ?_)
    exact ex_rete ret Try.func71 rfl (Ent.drop (EntR.e (chainH_fold y z (by exact oky)))) ⟨rfl, rfl⟩
  replace h2 : ¬ q ≠ s.hd.nrecv := by simpa using h2
  have hq : q = s.hd.nrecv := by omega
  rw [if_neg h2] at e0
  repeat (first|refine zA rfl ?_|refine zG rfl ?_|refine zJ rfl ?_|refine zQ ?_|refine zR ?_|refine zS ?_)
  refine ex_cond_split rfl (fun h3 => ?_) (fun h3 => ?_)
  · replace h3 : (find kn.packets q 0).isSome = false := by simpa using h3
    rw [if_pos h3] at e0
    simp only [e0] at ret
    repeat (first|refine zG rfl ?_|refine zQ ?_|refine zR ?_|refine zS ?_)
    exact ex_rete ret Try.func71 rfl (Ent.drop (EntR.e (chainH_fold y z (by exact oky)))) ⟨rfl, rfl⟩
  replace h3 : ¬ (find kn.packets q 0).isSome = false := by rw [Bool.not_eq_false'] at h3; rw [h3]; decide
  rw [if_neg h3] at e0
  repeat (first|refine zA rfl ?_|refine zC rfl ?_|refine zE rfl ?_|refine zF rfl ?_|refine zH rfl ?_|refine zR ?_|refine zT (by decide+kernel) (by decide+kernel) ?_)
  refine rg_call rfl (due_ok (pkOf kn.packets q) s.hd.height s.hd.time _) ?_
  rintro _ _ ⟨rfl, rfl⟩
  refine ⟨.inr (by (repeat' first | exact trivial | refine ⟨.inr ⟨_, _, _, _, Find.mem, rfl⟩, ?_⟩ | refine ⟨.inr ⟨_, _, _, _, Find.mem, inferInstance⟩, ?_⟩ | refine ⟨.inr ⟨_, Find.mem⟩, ?_⟩ | refine ⟨.inl (by decide +kernel), ?_⟩)), ?_⟩
  repeat (first|refine zG rfl ?_|refine zQ ?_)
  refine ex_cond_split rfl (fun h4 => ?_) (fun h4 => ?_)
  · rw [if_pos h4] at e0
    simp only [e0] at ret
    repeat (first|refine zG rfl ?_|refine zQ ?_|refine zR ?_|refine zS ?_)
    exact ex_rete ret Try.func71 rfl (Ent.drop (EntR.e (chainH_fold y z (by exact oky)))) ⟨rfl, rfl⟩
  rw [if_neg (by simpa using h4)] at e0
  repeat (first|refine zA rfl ?_|refine zB rfl rfl rfl ?_|refine zC rfl ?_|refine zE rfl ?_|refine zF rfl ?_|refine zN rfl rfl ?_|refine zQ ?_|refine zR ?_|refine zS ?_|refine yB ?_|refine yD ?_)
  have hf1 : FindK Try.prog 36 (.int .u64 q) (aEs s.hd.answers) none := by
    have := findK_int (P := Try.prog) (K := 36) (kk := .u64) q (s.hd.answers.map aI)
    rw [findI_none q _ 0 (by rw [hq]; exact ans_lt ok.hd)] at this; exact this
  have hf2 : FindK Try.prog 36 (.int .u64 q) (aEs (s.hd.answers ++ [⟨q, false⟩])) (some (s.hd.answers.length, .int .i64 2)) := by
    have := findK_int (P := Try.prog) (K := 36) (kk := .u64) q ((s.hd.answers ++ [(⟨q, false⟩ : Ans)]).map aI)
    rw [findI_last q ⟨q, false⟩ rfl _ 0 (by rw [hq]; exact ans_lt ok.hd)] at this; rw [Nat.zero_add] at this; exact this
  refine rg_mapUpdate rfl rfl rfl keyOK_int hf1 (fun _ _ e => by cases e) ?_
  rw [aEs_put ok.hd hq]
  dsimp only []
  repeat (first|refine zE rfl ?_|refine zF rfl ?_|refine zQ ?_|refine zR ?_|refine zS ?_)
  refine rg_call rfl (user_ok _ _) ?_
  rintro _ _ ⟨rfl, rfl⟩
  refine ⟨.inl rfl, ?_⟩
  repeat refine zQ ?_
  refine ex_cond_split rfl (fun h5 => ?_) (fun h5 => ?_)
  · rw [if_pos h5] at e0
    repeat (first|refine zA rfl ?_|refine zC rfl ?_|refine zE rfl ?_|refine zF rfl ?_|refine zR ?_|refine zS ?_)
    refine rg_mapUpdate rfl rfl rfl keyOK_int hf2 (fun _ _ e => by cases e; simp [aEs, aI, ient]) ?_
    rw [aEs_good ok.hd _ hq, show (s.hd.answers ++ [(⟨q, false⟩ : Ans)]).length = (s.hd.answers ++ [(⟨q, true⟩ : Ans)]).length by simp]
    dsimp only []
    repeat (first|refine zA rfl ?_|refine zE rfl ?_|refine zF rfl ?_|refine zQ ?_|refine zS ?_)
    (refine Rg.front 2 ?_; refine Rg.front 2 ?_)
    refine rg_call rfl (give_ok c y.pm y.pd y.am y.kp y.hs { s with hd := { s.hd with nrecv := wu (s.hd.nrecv + 1), answers := s.hd.answers ++ [⟨q, true⟩] } } _ _ _ y.l y.ck _ oky) ?_
    rintro _ _ ⟨l', ck', ok', rfl, rfl⟩
    refine ⟨.inl rfl, ?_⟩
    simp only [e0] at ret
    repeat (first|refine zG rfl ?_|refine zQ ?_|refine zR ?_|refine zS ?_)
    (refine Ex.front 2 ?_)
    exact ex_rete ret Try.func71 rfl (Ent.drop (EntR.e (chainH_fold { y with l := l', ck := ck' } z (by exact ok')))) ⟨rfl, rfl⟩
  · rw [if_neg (by simpa using h5)] at e0
    simp only [e0] at ret
    repeat (first|refine zG rfl ?_|refine zQ ?_|refine zR ?_|refine zS ?_|refine yB ?_)
    exact ex_rete ret Try.func71 rfl (Ent.drop (EntR.e (chainH_fold y z (by exact oky)))) ⟨rfl, rfl⟩

end Go.Br

namespace Go.Br
open Go Go.Lx Go.Proofs
open Go.Lx renaming rg_move → zA, rg_int → zB, rg_nilCheck → zC, rg_fieldAddr0 → zD, rg_fieldAddr → zE, rg_load → zF, rg_assign → zG, rg_loadAgg → zH, rg_extract → zI, rg_not → zJ, rg_pick → zK, rg_off → zL, rg_offU → zM, rg_store → zN, rg_storeAgg → zO, rg_convInt → zP, rg_done → zQ, ex_seq → zR, rg_start_s → zS, rg_start_d → zT, ex_cond_true → zU, ex_cond_false → zV, rg_alloc → zW, rg_boxAgg → zX, rg_build → zY, rg_lenSl → zZ, rg_lenMap → yA, ex_skip → yB, ex_block → yC, ex_inBlock → yD, ex_exit → yE, rg_caseG → yZ
set_option maxRecDepth 100000

theorem erase_map {α β : Type} (f : α → β) : ∀ (l : List α) (i : Nat), (l.map f).eraseIdx i = (l.eraseIdx i).map f
  | [], _ => rfl
  | _ :: _, 0 => rfl
  | a :: l, i + 1 => by simp only [List.map_cons, List.eraseIdx_cons_succ, erase_map f l i]

theorem back_eq (s : Cn) (q : Int) (kn : Hd) (closed : Bool) : back s q kn closed =
    if (find s.hd.packets q 0).isSome = false then (s, 10)
    else if closed = true ∧ kn.opn = true then (s, 14)
    else if (closed = false ∧ due (pkOf s.hd.packets q) kn.height kn.time = false) ∨ q < kn.nrecv then (s, 13)
    else (let s2 := credit { s with hd := { s.hd with packets := gone s.hd.packets q } } (pkOf s.hd.packets q).frm (pkOf s.hd.packets q).coin (pkOf s.hd.packets q).amount
          { s2 with hd := { s2.hd with opn := false } }, 0) := by
  unfold back pkOf gone
  cases h : find s.hd.packets q 0 with
  | none => simp
  | some x =>
    simp only [Option.isSome_some, Bool.true_eq_false, if_false, Option.map_some, Option.getD_some]

set_option maxHeartbeats 1000000 in
theorem timeout_ok (c : Nat) (s : Cn) (kn : Hd) (q : Int) (closed : Bool) (Γ : List Ch) :
    CallsX Try.prog 73 #[.pointer (some ⟨c, 0, none⟩), .int .u64 q, .bool closed] (.pr (ChainAt c s kn) :: Γ)
      (fun v Δ => v = .int .i64 (back s q kn closed).2 ∧ Δ = .pr (ChainAt c (back s q kn closed).1 kn) :: Γ) := by
  refine CallsX.open_ chainH_open fun (y, z) oky => ?_
  dsimp only at oky ⊢
  refine calls_of_body (args := [.pointer (some ⟨c, 0, none⟩), .int .u64 q, .bool closed]) Try.func73 rfl Try.ntmps73 fun X cs ret => ?_
  repeat (first|refine zA rfl ?_|refine zC rfl ?_|refine zE rfl ?_|refine zF rfl ?_|refine zG rfl ?_|refine zQ ?_|refine zR ?_|refine zS ?_)
  have hfk := findK_pk q s.hd.packets
  refine rg_lookup2 rfl rfl keyOK_int hfk (pkOf_val s.hd.packets q) (pkOf_some s.hd.packets q) ?_
  repeat (first|refine zA rfl ?_|refine zC rfl ?_|refine zD rfl ?_|refine zE rfl ?_|refine zF rfl ?_|refine zG rfl ?_|refine zH rfl ?_|refine zI rfl rfl ?_|refine zJ rfl ?_|refine zO rfl rfl ?_|refine zQ ?_|refine zR ?_|refine zS ?_|refine zW fun bl=>?_|refine yC ?_)
  have e0 := back_eq s q kn closed
  refine ex_cond_split rfl (fun h1 => ?_) (fun h1 => ?_)
  · rw [if_pos (by simpa using h1)] at e0
    simp only [e0] at ret
    repeat (first|refine zG rfl ?_|refine zQ ?_|refine zR ?_|refine zS ?_)
    exact ex_rete ret Try.func73 rfl (Ent.drop (Ent.drop (EntR.e (chainH_fold y z (by exact oky))))) ⟨rfl, rfl⟩
  have h1' : (find s.hd.packets q 0).isSome = true := by simpa only [Bool.not_eq_false'] using h1
  rw [if_neg (by rw [h1']; decide)] at e0
  obtain ⟨⟨i, pk⟩, hfd⟩ := Option.isSome_iff_exists.1 h1'
  have hg : gone s.hd.packets q = s.hd.packets.eraseIdx i := by simp [gone, hfd]
  have hdel : delE (pEs s.hd.packets) ((find s.hd.packets q 0).map fun (i, p) => (i, pkV p)) = pEs (gone s.hd.packets q) := by
    rw [hfd, hg]; simp only [Option.map_some, delE, pEs, List.map_map]; exact erase_map _ _ _
  cases closed with
  | true =>
    repeat (first|refine zA rfl ?_|refine zE rfl ?_|refine zF rfl ?_|refine zG rfl ?_|refine zK rfl rfl ?_|refine zQ ?_|refine zR ?_|refine zS ?_)
    refine ex_cond_split rfl (fun h2 => ?_) (fun h2 => ?_)
    · rw [if_pos ⟨rfl, h2⟩] at e0
      simp only [e0] at ret
      repeat (first|refine zG rfl ?_|refine zQ ?_|refine zR ?_|refine zS ?_)
      exact ex_rete ret Try.func73 rfl (Ent.drop (Ent.drop (EntR.e (chainH_fold y z (by exact oky))))) ⟨rfl, rfl⟩
    repeat (first|refine zA rfl ?_|refine zB rfl rfl rfl ?_|refine zE rfl ?_|refine zF rfl ?_|refine zG rfl ?_|refine zJ rfl ?_|refine zK rfl rfl ?_|refine zL rfl rfl rfl rfl (by decide) trivial rfl ?_|refine zQ ?_|refine zR ?_|refine zS ?_|refine zV rfl ?_)
    refine ex_cond_split rfl (fun h3 => ?_) (fun h3 => ?_)
    · have h3 := of_decide_eq_true h3
      rw [if_neg (by rw [h2]; simp), if_pos (.inr (by omega))] at e0
      simp only [e0] at ret
      repeat (first|refine zG rfl ?_|refine zQ ?_|refine zR ?_|refine zS ?_)
      exact ex_rete ret Try.func73 rfl (Ent.drop (Ent.drop (EntR.e (chainH_fold y z (by exact oky))))) ⟨rfl, rfl⟩
    have h3 := of_decide_eq_false h3
    rw [if_neg (by rw [h2]; simp), if_neg (fun h => h.elim (fun h => absurd h.1 (by decide)) (fun h => h3 (by omega)))] at e0
    simp only [e0] at ret
    repeat (first|refine zA rfl ?_|refine zC rfl ?_|refine zE rfl ?_|refine zF rfl ?_|refine zR ?_|refine zS ?_|refine yB ?_|refine yD ?_)
    refine rg_delete rfl rfl keyOK_int hfk ?_
    rw [hdel]
    repeat (first|refine zA rfl ?_|refine zE rfl ?_|refine zF rfl ?_|refine zQ ?_|refine zR ?_|refine zS ?_)
    (refine Rg.front 3 ?_; refine Rg.front 3 ?_)
    refine rg_call rfl (give_ok c y.pm y.pd y.am y.kp y.hs { s with hd := { s.hd with packets := gone s.hd.packets q } } _ _ _ y.l y.ck _ oky) ?_
    rintro _ _ ⟨l', ck', ok', rfl, rfl⟩
    refine ⟨.inl rfl, ?_⟩
    repeat (first|refine zA rfl ?_|refine zC rfl ?_|refine zD rfl ?_|refine zE rfl ?_|refine zG rfl ?_|refine zN rfl rfl ?_|refine zQ ?_|refine zR ?_|refine zS ?_)
    (refine Ex.front 3 ?_; refine Ex.front 3 ?_)
    exact ex_rete ret Try.func73 rfl (Ent.drop (Ent.drop (EntR.e (chainH_fold { y with l := l', ck := ck' } z (by exact ok'))))) ⟨rfl, rfl⟩
  | false =>
    repeat (first|refine zA rfl ?_|refine zD rfl ?_|refine zE rfl ?_|refine zF rfl ?_|refine zG rfl ?_|refine zH rfl ?_|refine zJ rfl ?_|refine zK rfl rfl ?_|refine zL rfl rfl rfl rfl (by decide) trivial rfl ?_|refine zQ ?_|refine zR ?_|refine zS ?_|refine zV rfl ?_)
    refine rg_call rfl (due_ok (pkOf s.hd.packets q) kn.height kn.time _) ?_
    rintro _ _ ⟨rfl, rfl⟩
    refine ⟨.inl rfl, ?_⟩
    repeat (first|refine zG rfl ?_|refine zJ rfl ?_|refine zK rfl rfl ?_|refine zQ ?_)
    refine ex_cond_split rfl (fun h2 => ?_) (fun h2 => ?_)
    · rw [if_neg (by simp), if_pos (.inl ⟨rfl, by simpa using h2⟩)] at e0
      simp only [e0] at ret
      rw [h2]
      repeat (first|refine zG rfl ?_|refine zQ ?_|refine zR ?_|refine zS ?_|refine zU rfl ?_|refine yB ?_)
      exact ex_rete ret Try.func73 rfl (Ent.drop (Ent.drop (EntR.e (chainH_fold y z (by exact oky))))) ⟨rfl, rfl⟩
    repeat (first|refine zA rfl ?_|refine zB rfl rfl rfl ?_|refine zE rfl ?_|refine zF rfl ?_|refine zG rfl ?_|refine zQ ?_|refine zS ?_)
    refine ex_cond_split rfl (fun h3 => ?_) (fun h3 => ?_)
    · have h3 := of_decide_eq_true h3
      rw [if_neg (by simp), if_pos (.inr (by omega))] at e0
      simp only [e0] at ret
      repeat (first|refine zG rfl ?_|refine zQ ?_|refine zR ?_|refine zS ?_)
      exact ex_rete ret Try.func73 rfl (Ent.drop (Ent.drop (EntR.e (chainH_fold y z (by exact oky))))) ⟨rfl, rfl⟩
    have h3 := of_decide_eq_false h3
    rw [if_neg (by simp), if_neg (fun h => h.elim (fun h => by rw [h.2] at h2; exact absurd h2 (by decide)) (fun h => h3 (by omega)))] at e0
    simp only [e0] at ret
    repeat (first|refine zA rfl ?_|refine zC rfl ?_|refine zE rfl ?_|refine zF rfl ?_|refine zR ?_|refine zS ?_|refine yB ?_|refine yD ?_)
    refine rg_delete rfl rfl keyOK_int hfk ?_
    rw [hdel]
    repeat (first|refine zA rfl ?_|refine zE rfl ?_|refine zF rfl ?_|refine zQ ?_|refine zR ?_|refine zS ?_)
    (refine Rg.front 3 ?_; refine Rg.front 3 ?_)
    refine rg_call rfl (give_ok c y.pm y.pd y.am y.kp y.hs { s with hd := { s.hd with packets := gone s.hd.packets q } } _ _ _ y.l y.ck _ oky) ?_
    rintro _ _ ⟨l', ck', ok', rfl, rfl⟩
    refine ⟨.inl rfl, ?_⟩
    repeat (first|refine zA rfl ?_|refine zC rfl ?_|refine zD rfl ?_|refine zE rfl ?_|refine zG rfl ?_|refine zN rfl rfl ?_|refine zQ ?_|refine zR ?_|refine zS ?_)
    (refine Ex.front 3 ?_; refine Ex.front 3 ?_)
    exact ex_rete ret Try.func73 rfl (Ent.drop (Ent.drop (EntR.e (chainH_fold { y with l := l', ck := ck' } z (by exact ok'))))) ⟨rfl, rfl⟩

end Go.Br

namespace Go.Br
open Go Go.Lx Go.Proofs
open Go.Lx renaming rg_move → zA, rg_int → zB, rg_nilCheck → zC, rg_fieldAddr0 → zD, rg_fieldAddr → zE, rg_load → zF, rg_assign → zG, rg_loadAgg → zH, rg_extract → zI, rg_not → zJ, rg_pick → zK, rg_off → zL, rg_offU → zM, rg_store → zN, rg_storeAgg → zO, rg_convInt → zP, rg_done → zQ, ex_seq → zR, rg_start_s → zS, rg_start_d → zT, ex_cond_true → zU, ex_cond_false → zV, rg_alloc → zW, rg_boxAgg → zX, rg_build → zY, rg_lenSl → zZ, rg_lenMap → yA, ex_skip → yB, ex_block → yC, ex_inBlock → yD, ex_exit → yE, rg_caseG → yZ
set_option maxRecDepth 100000

abbrev pkC (p : Pk) : List Value := [.int .u64 p.seq, .int .i64 p.frm, .int .i64 p.to, .int .i64 p.coin, .int .u64 p.amount, .int .u64 p.height, .int .u64 p.time]

theorem find_split (q : Int) : ∀ (l : List Pk) (k i : Nat) (p : Pk), find l q k = some (i, p) → ∃ a b, l = a ++ p :: b ∧ i = k + a.length ∧ p.seq = q := by
  intro l
  induction l with
  | nil => intro k i p h; cases h
  | cons a l ih =>
    intro k i p h
    simp only [find] at h
    split at h
    · cases h; exact ⟨[], l, rfl, by simp, by assumption⟩
    · obtain ⟨a', b, e1, e2, e3⟩ := ih _ _ _ h
      exact ⟨a :: a', b, by rw [e1]; rfl, by rw [e2, List.length_cons]; omega, e3⟩

/-- In a rising list a packet stands first if none has a smaller number. -/
theorem find_first {l : List Pk} (hs : l.Pairwise (fun p q => p.seq < q.seq)) {q : Int} {i : Nat} {p : Pk} (h : find l q 0 = some (i, p)) : i ≠ 0 ↔ ∃ x ∈ l, x.seq < q := by
  obtain ⟨a, b, e1, e2, e3⟩ := find_split q l 0 i p h
  subst e1
  rw [List.pairwise_append] at hs
  constructor
  · intro hi
    cases a with
    | nil => simp at e2; exact absurd e2 hi
    | cons x a => exact ⟨x, by simp, by have := hs.2.2 x (by simp) p (by simp); omega⟩
  · rintro ⟨x, hx, hlt⟩
    rcases List.mem_append.1 hx with hx | hx
    · have := List.length_pos_of_mem hx; omega
    · rcases List.mem_cons.1 hx with rfl | hx
      · omega
      · have := (List.pairwise_cons.1 hs.2.1).1 x hx; omega

theorem ack_eq {s : Cn} {B : Nat} (ok : Ok B s) (q : Int) (kn : Hd) : ack s q kn =
    if (find s.hd.packets q 0).isSome = false then (s, 10)
    else if (∃ p ∈ s.hd.packets, p.seq < q) then (s, 9)
    else if (findA kn.answers q).isSome = false then (s, 12)
    else if (findA kn.answers q).any (·.good) then ({ s with hd := { s.hd with packets := gone s.hd.packets q } }, 0)
    else (credit { s with hd := { s.hd with packets := gone s.hd.packets q } } (pkOf s.hd.packets q).frm (pkOf s.hd.packets q).coin (pkOf s.hd.packets q).amount, 0) := by
  unfold ack
  cases h : find s.hd.packets q 0 with
  | none => simp
  | some x =>
    obtain ⟨i, p⟩ := x
    have hf := find_first ok.hd.sorted h
    have hg : gone s.hd.packets q = s.hd.packets.eraseIdx i := by simp [gone, h]
    have hp : pkOf s.hd.packets q = p := by simp [pkOf, h]
    simp only [Option.isSome_some, Bool.true_eq_false, if_false, hg, hp]
    by_cases hi : i = 0
    · rw [if_neg (by simpa using hi), if_neg (fun e => hf.2 e hi)]
      cases ha : findA kn.answers q with
      | none => simp
      | some a => cases hgd : a.good <;> simp [hgd]
    · rw [if_pos hi, if_pos (hf.1 hi)]

def aVal (l : List Ans) (q : Int) : Int := match findA l q with | some a => if a.good then 1 else 2 | none => 0
theorem aVal_val (l : List Ans) (q : Int) : ((findI (l.map aI) q 0).map (·.2)).getD (.int .i64 0) = .int .i64 (aVal l q) := by
  rw [findI_aI]; unfold aVal; cases findA l q <;> rfl
theorem aVal_some (l : List Ans) (q : Int) : (findI (l.map aI) q 0).isSome = (findA l q).isSome := by
  have := congrArg Option.isSome (findI_aI q l 0)
  simpa using this
theorem aVal_good (l : List Ans) (q : Int) (h : (findA l q).isSome = true) : decide (aVal l q = 2) = !(findA l q).any (·.good) := by
  obtain ⟨a, e⟩ := Option.isSome_iff_exists.1 h
  unfold aVal; rw [e]
  cases h : a.good <;> simp [h]

set_option maxHeartbeats 1000000 in
theorem ack_ok (c : Nat) (s : Cn) (kn : Hd) (q : Int) (B : Nat) (Γ : List Ch) (ok : Ok B s) :
    CallsX Try.prog 72 #[.pointer (some ⟨c, 0, none⟩), .int .u64 q] (.pr (ChainAt c s kn) :: Γ)
      (fun v Δ => v = .int .i64 (ack s q kn).2 ∧ Δ = .pr (ChainAt c (ack s q kn).1 kn) :: Γ) := by
  refine CallsX.open_ chainH_open fun (y, z) oky => ?_
  dsimp only at oky ⊢
  refine calls_of_body (args := [.pointer (some ⟨c, 0, none⟩), .int .u64 q]) Try.func72 rfl Try.ntmps72 fun X cs ret => ?_
  repeat (first|refine zA rfl ?_|refine zC rfl ?_|refine zE rfl ?_|refine zF rfl ?_|refine zG rfl ?_|refine zQ ?_|refine zR ?_|refine zS ?_)
  have hfk := findK_pk q s.hd.packets
  refine rg_lookup2 rfl rfl keyOK_int hfk (pkOf_val s.hd.packets q) (pkOf_some s.hd.packets q) ?_
  repeat (first|refine zA rfl ?_|refine zG rfl ?_|refine zI rfl rfl ?_|refine zJ rfl ?_|refine zO rfl rfl ?_|refine zQ ?_|refine zR ?_|refine zS ?_|refine zW fun bl=>?_)
  have e0 := ack_eq ok q kn
  refine ex_cond_split rfl (fun h1 => ?_) (fun h1 => ?_)
  · rw [if_pos (by simpa using h1)] at e0
    simp only [e0] at ret
    repeat (first|refine zG rfl ?_|refine zQ ?_|refine zR ?_|refine zS ?_)
    exact ex_rete ret Try.func72 rfl (Ent.drop (EntR.e (chainH_fold y z (by exact oky)))) ⟨rfl, rfl⟩
  have h1' : (find s.hd.packets q 0).isSome = true := by simpa only [Bool.not_eq_false'] using h1
  rw [if_neg (by rw [h1']; decide)] at e0
  obtain ⟨⟨i, pk⟩, hfd⟩ := Option.isSome_iff_exists.1 h1'
  have hg : gone s.hd.packets q = s.hd.packets.eraseIdx i := by simp [gone, hfd]
  repeat (first|refine zA rfl ?_|refine zC rfl ?_|refine zE rfl ?_|refine zF rfl ?_|refine zR ?_|refine zS ?_|refine yB ?_)
  refine rg_range rfl (fun r => ?_)
  repeat (first|refine zQ ?_|refine yC ?_)
  refine ex_loop ?_
  have hbelow : ∀ e ∈ pEs s.hd.packets, e.born < (s.nsend - 1).toNat := by
    intro e he
    obtain ⟨p, hp, rfl⟩ : ∃ p ∈ s.hd.packets, ient .u64 (pI p) = e := by simpa [pEs] using he
    have h1 := ok.below p hp
    have h2 := ok.hd.seqs p hp
    show (p.seq - 1).toNat < _
    omega
  have hborn : (pEs s.hd.packets).Pairwise (fun x y => x.born ≠ y.born) := by
    unfold pEs
    rw [List.pairwise_map, List.pairwise_map]
    have hs := ok.hd.sorted
    have hs' : s.hd.packets.Pairwise (fun a b => a ∈ s.hd.packets ∧ b ∈ s.hd.packets ∧ a.seq < b.seq) := by
      exact List.Pairwise.imp_of_mem (fun {a b} ha hb h => ⟨ha, hb, h⟩) hs
    refine hs'.imp ?_
    rintro a b ⟨ha, hb, h⟩
    have h1 := ok.hd.seqs a ha
    have h2 := ok.hd.seqs b hb
    show (a.seq - 1).toNat ≠ (b.seq - 1).toNat
    omega
  refine ex_ind (left (pEs s.hd.packets)) (fun _ => [(26, ptrV r), (5, ptrV bl), (1, .int .u64 q), (0, ptrV c)]) (fun seen => .pt r true (.mapIter (some y.pd) (s.nsend - 1).toNat ⟨seen⟩ (s.nsend - 1).toNat) :: .pt bl true (.cells ⟨pkC (pkOf s.hd.packets q)⟩ 49 (0, 0)) :: chainHL c s kn y z Γ) (fun seen => ∀ p ∈ s.hd.packets, (pI p).2.2 ∈ seen → ¬ p.seq < q) [] (fun p _ h => by cases h) ⟨rfl, rfl, rfl, rfl, trivial⟩ rfl (fun seen hseen IH => ?_)
  refine ex_seq (rg_start_s (rg_next rfl hbelow (fun hall => ?_) (fun e he hne => ?_)))
  · have hno : ¬ ∃ p ∈ s.hd.packets, p.seq < q := by
      rintro ⟨p, hp, hlt⟩
      refine hseen p hp ?_ hlt
      exact hall (ient .u64 (pI p)) (by simp only [pEs]; exact List.mem_map_of_mem (List.mem_map_of_mem hp))
    rw [if_neg hno] at e0
    repeat (first|refine zA rfl ?_|refine zC rfl ?_|refine zE rfl ?_|refine zF rfl ?_|refine zI rfl rfl ?_|refine zQ ?_|refine zR ?_|refine zS ?_|refine zV rfl ?_|refine yE rfl ?_)
    have hfa : FindK Try.prog 36 (.int .u64 q) (aEs kn.answers) (findI (kn.answers.map aI) q 0) := findK_int q _
    refine rg_lookup2 rfl rfl keyOK_int hfa (aVal_val kn.answers q) (aVal_some kn.answers q) ?_
    repeat (first|refine zA rfl ?_|refine zG rfl ?_|refine zI rfl rfl ?_|refine zJ rfl ?_|refine zQ ?_|refine zR ?_|refine zS ?_)
    refine ex_cond_split rfl (fun h2 => ?_) (fun h2 => ?_)
    · rw [if_pos (by simpa using h2)] at e0
      simp only [e0] at ret
      repeat (first|refine zG rfl ?_|refine zQ ?_|refine zR ?_|refine zS ?_)
      exact ex_rete ret Try.func72 rfl (Ent.drop (Ent.drop (EntR.e (chainH_fold y z (by exact oky))))) ⟨rfl, rfl⟩
    have h2' : (findA kn.answers q).isSome = true := by simpa only [Bool.not_eq_false'] using h2
    rw [if_neg (by rw [h2']; decide)] at e0
    have hdel : delE (pEs s.hd.packets) ((find s.hd.packets q 0).map fun (i, p) => (i, pkV p)) = pEs (gone s.hd.packets q) := by
      rw [hfd, hg]; simp only [Option.map_some, delE, pEs, List.map_map]; exact erase_map _ _ _
    repeat (first|refine zA rfl ?_|refine zC rfl ?_|refine zE rfl ?_|refine zF rfl ?_|refine zR ?_|refine zS ?_|refine yB ?_)
    refine rg_delete rfl rfl keyOK_int hfk ?_
    rw [hdel]
    repeat (first|refine zA rfl ?_|refine zB rfl rfl rfl ?_|refine zQ ?_|refine zR ?_|refine zS ?_)
    refine ex_cond_split rfl (fun h3 => ?_) (fun h3 => ?_)
    · rw [aVal_good _ _ h2'] at h3
      rw [if_neg (by simpa using h3)] at e0
      simp only [e0] at ret
      repeat (first|refine zA rfl ?_|refine zE rfl ?_|refine zF rfl ?_|refine zS ?_)
      (refine Rg.front 3 ?_; refine Rg.front 3 ?_)
      refine rg_call rfl (give_ok c y.pm y.pd y.am y.kp y.hs { s with hd := { s.hd with packets := gone s.hd.packets q } } _ _ _ y.l y.ck _ oky) ?_
      rintro _ _ ⟨l', ck', ok', rfl, rfl⟩
      refine ⟨.inl rfl, ?_⟩
      repeat (first|refine zG rfl ?_|refine zQ ?_|refine zR ?_|refine zS ?_)
      (refine Ex.front 3 ?_; refine Ex.front 3 ?_)
      exact ex_rete ret Try.func72 rfl (Ent.drop (Ent.drop (EntR.e (chainH_fold { y with l := l', ck := ck' } z (by exact ok'))))) ⟨rfl, rfl⟩
    · rw [aVal_good _ _ h2'] at h3
      rw [if_pos (by simpa using h3)] at e0
      simp only [e0] at ret
      repeat (first|refine zG rfl ?_|refine zQ ?_|refine zR ?_|refine zS ?_|refine yB ?_)
      exact ex_rete ret Try.func72 rfl (Ent.drop (Ent.drop (EntR.e (chainH_fold y z (by exact oky))))) ⟨rfl, rfl⟩
  · obtain ⟨p, hp, rfl⟩ : ∃ p ∈ s.hd.packets, ient .u64 (pI p) = e := by simpa [pEs] using he
    repeat (first|refine zI rfl rfl ?_|refine zQ ?_|refine zR ?_|refine zS ?_|refine zU rfl ?_|refine yB ?_|refine yC ?_)
    refine rg_entry rfl (find_born hborn he) ?_
    repeat (first|refine zA rfl ?_|refine zB rfl rfl rfl ?_|refine zG rfl ?_|refine zI rfl rfl ?_|refine zQ ?_|refine zR ?_|refine zS ?_)
    refine ex_cond_split rfl (fun h2 => ?_) (fun h2 => ?_)
    · have h2 : p.seq < q := of_decide_eq_true h2
      rw [if_pos ⟨p, hp, h2⟩] at e0
      simp only [e0] at ret
      repeat (first|refine zG rfl ?_|refine zQ ?_|refine zR ?_|refine zS ?_)
      exact ex_rete ret Try.func72 rfl (Ent.drop (Ent.drop (EntR.e (chainH_fold y z (by exact oky))))) ⟨rfl, rfl⟩
    · have h2 : ¬ p.seq < q := of_decide_eq_false h2
      refine ex_skip ?_
      refine ex_inBlock ?_
      refine ex_inLoop ?_
      refine Ex.sup (IH (seen ++ [(ient .u64 (pI p)).born]) ?_ (left_lt he hne)) ⟨rfl, rfl, rfl, rfl, trivial⟩
      intro p' hp' hs'
      rcases List.mem_append.1 hs' with hs' | hs'
      · exact hseen p' hp' hs'
      · have h3 : (p'.seq - 1).toNat = (p.seq - 1).toNat := by simpa [pI, ient] using hs'
        have h4 := ok.hd.seqs p hp
        have h5 := ok.hd.seqs p' hp'
        omega

end Go.Br

namespace Go.Br
open Go Go.Lx Go.Proofs
open Go.Lx renaming rg_move → zA, rg_int → zB, rg_nilCheck → zC, rg_fieldAddr0 → zD, rg_fieldAddr → zE, rg_load → zF, rg_assign → zG, rg_loadAgg → zH, rg_extract → zI, rg_not → zJ, rg_pick → zK, rg_off → zL, rg_offU → zM, rg_store → zN, rg_storeAgg → zO, rg_convInt → zP, rg_done → zQ, ex_seq → zR, rg_start_s → zS, rg_start_d → zT, ex_cond_true → zU, ex_cond_false → zV, rg_alloc → zW, rg_boxAgg → zX, rg_build → zY, rg_lenSl → zZ, rg_lenMap → yA, ex_skip → yB, ex_block → yC, ex_inBlock → yD, ex_exit → yE, rg_caseG → yZ
set_option maxRecDepth 100000

theorem wpE_clone {t : TypeId} {m : Nat} {p : Bool} {es : List MapEntry} {ck : Nat} {h : LH} (hm : h m = some (p, .map ⟨es⟩ ck)) {Q : Value → LH → Prop} (q : ∀ r, h r = none → Q (.iface t (.map (some r))) (h.put r (.map ⟨es⟩ ck))) :
    wpE Try.prog (Extern.MapsClone.clone [.iface t (.map (some m))].toArray) Q h := by
  show wpE Try.prog (getObj m >>= fun o => match o with
    | .map entries clock => newObj (.map entries clock) >>= fun r => pure (.iface t (.map (some r)))
    | _ => stuck "maps.clone: a map expected" >>= fun x => x) Q h
  rw [wpE_bind']
  refine wpE_getObj hm rfl ?_
  simp only [wpE_bind', newObj, wpE, wpE_pure]
  exact q

theorem clonePk_ok (m : Nat) (p : Bool) (es : List MapEntry) (ck : Nat) (Γ : List Ch) :
    CallsX Try.prog 78 #[.map (some m)] (.pt m p (.map ⟨es⟩ ck) :: Γ) (fun v Δ => ∃ r, v = .map (some r) ∧ Δ = .pt r true (.map ⟨es⟩ ck) :: .pt m p (.map ⟨es⟩ ck) :: Γ) := by
  refine calls_of_body (args := [.map (some m)]) Try.func78 rfl Try.ntmps78 fun X cs ret => ?_
  repeat (first|refine zA rfl ?_|refine zG rfl ?_|refine zQ ?_|refine zR ?_|refine zS ?_)
  refine rg_eqMapNil rfl rfl ?_
  repeat (first|refine zA rfl ?_|refine zQ ?_|refine zR ?_|refine zS ?_|refine zV rfl ?_|refine yB ?_)
  refine rg_makeIface trivial rfl ?_
  refine rg_ext rfl (φ := fun v Δ => ∃ r, v = .iface 143 (.map (some r)) ∧ Δ = .pt r true (.map ⟨es⟩ ck) :: .pt m p (.map ⟨es⟩ ck) :: Γ) ?_ ?_
  · intro h st
    have hm := Star.mem (List.mem_cons_self ..) st
    exact wpE_clone hm fun r hr => ⟨_, ⟨r, rfl, rfl⟩, st.new hr⟩
  · rintro _ _ ⟨r, rfl, rfl⟩
    refine ⟨.inl rfl, ?_⟩
    refine rg_assertSame trivial rfl ?_
    repeat (first|refine zG rfl ?_|refine zQ ?_)
    exact ex_retc ret Try.func78 rfl ⟨r, rfl, rfl⟩

theorem cloneA_ok (m : Nat) (p : Bool) (es : List MapEntry) (ck : Nat) (Γ : List Ch) :
    CallsX Try.prog 79 #[.map (some m)] (.pt m p (.map ⟨es⟩ ck) :: Γ) (fun v Δ => ∃ r, v = .map (some r) ∧ Δ = .pt r true (.map ⟨es⟩ ck) :: .pt m p (.map ⟨es⟩ ck) :: Γ) := by
  refine calls_of_body (args := [.map (some m)]) Try.func79 rfl Try.ntmps79 fun X cs ret => ?_
  repeat (first|refine zA rfl ?_|refine zG rfl ?_|refine zQ ?_|refine zR ?_|refine zS ?_)
  refine rg_eqMapNil rfl rfl ?_
  repeat (first|refine zA rfl ?_|refine zQ ?_|refine zR ?_|refine zS ?_|refine zV rfl ?_|refine yB ?_)
  refine rg_makeIface trivial rfl ?_
  refine rg_ext rfl (φ := fun v Δ => ∃ r, v = .iface 144 (.map (some r)) ∧ Δ = .pt r true (.map ⟨es⟩ ck) :: .pt m p (.map ⟨es⟩ ck) :: Γ) ?_ ?_
  · intro h st
    have hm := Star.mem (List.mem_cons_self ..) st
    exact wpE_clone hm fun r hr => ⟨_, ⟨r, rfl, rfl⟩, st.new hr⟩
  · rintro _ _ ⟨r, rfl, rfl⟩
    refine ⟨.inl rfl, ?_⟩
    refine rg_assertSame trivial rfl ?_
    repeat (first|refine zG rfl ?_|refine zQ ?_)
    exact ex_retc ret Try.func79 rfl ⟨r, rfl, rfl⟩

end Go.Br
