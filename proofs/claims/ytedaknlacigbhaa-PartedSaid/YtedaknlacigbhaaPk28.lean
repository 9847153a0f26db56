/-
  Lemmas towards the law, proved without conditions of their own: PARTED: move: what it does to the bridge is a function of its bytes; PARTED: play: what the bridge is behind the moves is a function of them; PARTED: the plain law: the steps of one chain behind those of the other are the steps of both at the same time; PARTED: steps: a list of steps from bytes.
-/
import Derived.Test.YtedaknlacigbhaaPk24
import Derived.Test.YtedaknlacigbhaaPk27
import Derived.Test.YtedaknlacigbhaaPk20
namespace Go.Br
open Go Go.Lx Go.Proofs
open Go.Lx renaming rg_move → zA, rg_int → zB, rg_nilCheck → zC, rg_fieldAddr0 → zD, rg_fieldAddr → zE, rg_load → zF, rg_assign → zG, rg_loadAgg → zH, rg_extract → zI, rg_not → zJ, rg_pick → zK, rg_off → zL, rg_offU → zM, rg_store → zN, rg_storeAgg → zO, rg_convInt → zP, rg_done → zQ, ex_seq → zR, rg_start_s → zS, rg_start_d → zT, ex_cond_true → zU, ex_cond_false → zV, rg_alloc → zW, rg_boxAgg → zX, rg_build → zY, rg_lenSl → zZ, rg_lenMap → yA, ex_skip → yB, ex_block → yC, ex_inBlock → yD, ex_exit → yE, rg_caseG → yZ
set_option maxRecDepth 100000

/-- The step of a move. -/
def mvX (c : Int) (S : Bg) (b1 b2 b3 : UInt8) : Stp :=
  if Int.tmod (b1.toNat : Int) 16 < 5 then ⟨1, IntKind.wrap .u64 (Int.tmod b2.toNat 8), ⟨99, IntKind.wrap .i64 (IntKind.wrap .i64 (Int.tmod b2.toNat 4) - IntKind.wrap .i64 (IntKind.wrap .u8 (Int.tdiv (Int.tmod b2.toNat 64) 63))),
    IntKind.wrap .i64 (IntKind.wrap .i64 (Int.tmod (IntKind.wrap .u8 (Int.tdiv b2.toNat 4)) 4) - IntKind.wrap .i64 (IntKind.wrap .u8 (Int.tdiv (Int.tmod b2.toNat 128) 127))), IntKind.wrap .i64 (Int.tmod (IntKind.wrap .u8 (Int.tdiv b2.toNat 16)) 2),
    IntKind.wrap .u64 (Int.tmod b3.toNat 128), IntKind.wrap .u64 (IntKind.wrap .u64 (Int.tmod (IntKind.wrap .u8 (Int.tdiv b3.toNat 16)) 8) * IntKind.wrap .u64 (Int.tmod b3.toNat 2)), IntKind.wrap .u64 (Int.tmod (IntKind.wrap .u8 (Int.tdiv b3.toNat 16)) 16)⟩⟩
  else if Int.tmod (b1.toNat : Int) 16 < 8 then ⟨2, IntKind.wrap .u64 (Int.tmod b2.toNat 8), ⟨0, 0, 0, 0, 0, 0, 0⟩⟩
  else if Int.tmod (b1.toNat : Int) 16 = 8 then ⟨3, IntKind.wrap .u64 b2.toNat, ⟨0, 0, 0, 0, 0, 0, 0⟩⟩
  else if Int.tmod (b1.toNat : Int) 16 < 11 then ⟨3, (ownC (1 - c) S).hd.height, ⟨0, 0, 0, 0, 0, 0, 0⟩⟩
  else if Int.tmod (b1.toNat : Int) 16 = 11 then ⟨4, (ownC c S).hd.nrecv, ⟨0, 0, 0, 0, 0, 0, 0⟩⟩
  else if Int.tmod (b1.toNat : Int) 16 = 12 then ⟨5, IntKind.wrap .u64 (Int.tmod b2.toNat 8), ⟨0, 0, 0, 0, 0, 0, 0⟩⟩
  else if Int.tmod (b1.toNat : Int) 16 = 13 then ⟨6, IntKind.wrap .u64 (Int.tmod b2.toNat 8), ⟨0, 0, 0, 0, 0, 0, 0⟩⟩
  else if Int.tmod (b1.toNat : Int) 16 = 14 then ⟨7, IntKind.wrap .u64 (Int.tmod b2.toNat 8), ⟨0, 0, 0, 0, 0, 0, 0⟩⟩
  else if 200 < (b2.toNat : Int) then ⟨8, IntKind.wrap .u64 (Int.tmod b2.toNat 8), ⟨0, 0, 0, 0, 0, 0, 0⟩⟩
  else if 100 < (b2.toNat : Int) then ⟨9, IntKind.wrap .u64 (Int.tmod b2.toNat 8), ⟨0, 0, 0, 0, 0, 0, 0⟩⟩
  else ⟨4, (ownC c S).hd.nrecv, ⟨0, 0, 0, 0, 0, 0, 0⟩⟩

theorem mvX_ok {B : Nat} {S : Bg} (ok : BgOk B S) (hB : B < 99999999) (c : Int) (b1 b2 b3 : UInt8) : (0 ≤ (mvX c S b1 b2 b3).n ∧ (mvX c S b1 b2 b3).n < 18446744073709551616) ∧ 0 ≤ (mvX c S b1 b2 b3).p.amount := by
  unfold mvX
  split; · exact ⟨wuB _, (wuB _).1⟩
  split; · exact ⟨wuB _, Int.le_refl 0⟩
  split; · exact ⟨wuB _, Int.le_refl 0⟩
  split; · exact ⟨ltB (ownC_ok ok (1 - c)).hd.height (by omega), Int.le_refl 0⟩
  split; · exact ⟨ltB (nrecvB (ownC_ok ok c)) (by omega), Int.le_refl 0⟩
  split; · exact ⟨wuB _, Int.le_refl 0⟩
  split; · exact ⟨wuB _, Int.le_refl 0⟩
  split; · exact ⟨wuB _, Int.le_refl 0⟩
  split; · exact ⟨wuB _, Int.le_refl 0⟩
  split; · exact ⟨wuB _, Int.le_refl 0⟩
  exact ⟨ltB (nrecvB (ownC_ok ok c)) (by omega), Int.le_refl 0⟩

def mvB (s : ByteArray) (i : Nat) : UInt8 := s[i]?.getD 0
/-- The bridge behind a move. -/
def mvS (S : Bg) (s : ByteArray) : Bg := (bgDo S (Int.tmod (IntKind.wrap .i64 ((mvB s 0).toNat : Int)) 2) (mvX (Int.tmod (IntKind.wrap .i64 ((mvB s 0).toNat : Int)) 2) S (mvB s 1) (mvB s 2) (mvB s 3))).1

set_option maxHeartbeats 16000000 in
theorem moveD_ok (w : Nat) (S : Bg) (r0 r1 : List Rec) (s : ByteArray) (B : Nat) (Γ : List Ch) (hs : 4 ≤ s.size) (k : KOk B S r0 r1) (hB : B < 99999999) :
    CallsX Try.prog 19 #[ptrV w, .string s] (.pr (KwAt w S r0 r1) :: Γ) (fun v Δ => ∃ r0' r1', v = .bool true ∧ KOk (B + 1) (mvS S s) r0' r1' ∧ Ent Δ (.pr (KwAt w (mvS S s) r0' r1') :: Γ)) := by
  have hok := k.ok
  have hlen := k.len
  have gb : ∀ i, i < 4 → ∃ b : UInt8, s[i]? = some b := fun i hi => ⟨s[i]'(by omega), by rw [getElem?_pos]⟩
  obtain ⟨b0, hb0⟩ := gb 0 (by decide)
  obtain ⟨b1, hb1⟩ := gb 1 (by decide)
  obtain ⟨b2, hb2⟩ := gb 2 (by decide)
  obtain ⟨b3, hb3⟩ := gb 3 (by decide)
  obtain ⟨c, hcc, hc⟩ := tm2 b0
  have hc' : (1 - c = 0 ∨ 1 - c = 1) := by omega
  have hS : mvS S s = (bgDo S c (mvX c S b1 b2 b3)).1 := by
    unfold mvS mvB
    rw [hb0, hb1, hb2, hb3]
    simp only [Option.getD_some, hcc]
  rw [hS]
  refine calls_of_body (args := [ptrV w, .string s]) Try.func19 rfl Try.ntmps19 fun X cs ret => ?_
  refine ex_seq (rg_start_s ?_)
  repeat (first|refine zA rfl ?_|refine zG rfl ?_|refine zQ ?_|refine zR ?_|refine zS ?_)
  refine rg_indexStr rfl rfl (by decide) hb0 ?_
  repeat refine zP rfl ?_
  refine rg_rem rfl rfl (by decide) ?_
  rw [hcc]
  repeat (first|refine zA rfl ?_|refine zG rfl ?_|refine zQ ?_|refine zR ?_|refine zS ?_)
  refine rg_indexStr rfl rfl (by decide) hb2 ?_
  refine rg_rem rfl rfl (by decide) ?_
  repeat (first|refine zA rfl ?_|refine zG rfl ?_|refine zP rfl ?_|refine zQ ?_|refine zR ?_|refine zS ?_)
  refine rg_callE rfl (total_ok w S r0 r1 B _ k (by omega)) ?_
  refine ⟨.inl rfl, ?_⟩
  repeat (first|refine zA rfl ?_|refine zO rfl rfl ?_|refine zQ ?_|refine zR ?_|refine zS ?_|refine zW fun bl=>?_|refine zY rfl ?_)
  rename_i bf
  refine rg_indexStr rfl rfl (by decide) hb1 ?_
  refine rg_rem rfl rfl (by decide) ?_
  repeat (first|refine zG rfl ?_|refine zQ ?_|refine zR ?_|refine yC ?_)
  (refine Ex.front 2 ?_)
  refine Ex.open_ kw_open fun z _ => ?_
  obtain ⟨b, v⟩ := z
  dsimp only [kwL]
  (refine Ex.front 7 ?_; refine Ex.front 7 ?_; refine Ex.front 7 ?_; refine Ex.front 7 ?_; refine Ex.front 7 ?_; refine Ex.front 7 ?_; refine Ex.front 7 ?_; refine Ex.front 7 ?_; refine Ex.front 9 ?_; refine Ex.front 9 ?_)
  apply joinC (ι := Stp) (fun x => x = mvX c S b1 b2 b3) (fun x => [(8, ptrV bl), (7, ptrV bf), (5, .int .i64 c), (0, ptrV w)]) (fun x => .pt bl true (.cells ⟨stC x⟩ 51 (0, 0)) :: .pt bf true (.cells ⟨[.int .u64 3000, .int .u64 3000]⟩ 66 (0, 0)) :: kwL w b v S r0 r1 Γ)
  · intro J
    repeat (first|refine zA rfl ?_|refine zB rfl rfl rfl ?_|refine zG rfl ?_|refine zQ ?_|refine zS ?_)
    refine ex_cond_split rfl (fun q1 => ?_) (fun q1 => ?_)
    · repeat refine zR ?_
      refine rg_start_s ?_
      repeat (first|refine zD rfl ?_|refine zN rfl rfl ?_|refine zQ ?_)
      refine rg_start_d (by decide+kernel) (by decide+kernel) ?_
      repeat (first | (first|refine zA rfl ?_|refine zB rfl rfl rfl ?_|refine zE rfl ?_|refine zO rfl rfl ?_|refine zP rfl ?_|refine zQ ?_|refine zR ?_|refine zY rfl ?_|refine yD ?_) | refine rg_indexStr rfl rfl (by decide) hb2 ?_ | refine rg_indexStr rfl rfl (by decide) hb3 ?_ | refine rg_rem rfl rfl (by decide) ?_ | refine rg_quo rfl rfl (by decide) ?_)
      refine Ex.sup (J ⟨_, _, ⟨_, _, _, _, _, _, _⟩⟩ ?_) ⟨rfl, rfl, rfl, rfl, trivial⟩
      unfold mvX
      rw [if_pos (of_decide_eq_true q1)] <;> rfl
    repeat (first|refine zA rfl ?_|refine zB rfl rfl rfl ?_|refine zG rfl ?_|refine zQ ?_|refine zR ?_|refine zS ?_)
    refine ex_cond_split rfl (fun q2 => ?_) (fun q2 => ?_)
    · skip
      refine rg_start_s ?_
      repeat (first|refine zD rfl ?_|refine zN rfl rfl ?_|refine zQ ?_|refine zR ?_|refine yD ?_)
      refine Ex.sup (J ⟨_, _, ⟨_, _, _, _, _, _, _⟩⟩ ?_) ⟨rfl, rfl, rfl, rfl, trivial⟩
      unfold mvX
      rw [if_neg (of_decide_eq_false q1), if_pos (of_decide_eq_true q2)] <;> rfl
    repeat (first|refine zA rfl ?_|refine zB rfl rfl rfl ?_|refine zG rfl ?_|refine zQ ?_|refine zR ?_|refine zS ?_)
    refine ex_cond_split rfl (fun q3 => ?_) (fun q3 => ?_)
    · repeat refine zR ?_
      refine rg_start_s ?_
      repeat (first|refine zD rfl ?_|refine zN rfl rfl ?_|refine zQ ?_)
      refine rg_start_s ?_
      repeat refine zA rfl ?_
      refine rg_indexStr rfl rfl (by decide) hb2 ?_
      repeat (first|refine zE rfl ?_|refine zN rfl rfl ?_|refine zP rfl ?_|refine zQ ?_|refine zR ?_|refine yD ?_)
      refine Ex.sup (J ⟨_, _, ⟨_, _, _, _, _, _, _⟩⟩ ?_) ⟨rfl, rfl, rfl, rfl, trivial⟩
      unfold mvX
      rw [if_neg (of_decide_eq_false q1), if_neg (of_decide_eq_false q2), if_pos (of_decide_eq_true q3)] <;> rfl
    repeat (first|refine zA rfl ?_|refine zB rfl rfl rfl ?_|refine zG rfl ?_|refine zQ ?_|refine zR ?_|refine zS ?_)
    refine ex_cond_split rfl (fun q4 => ?_) (fun q4 => ?_)
    · repeat refine zR ?_
      refine rg_start_s ?_
      repeat (first|refine zD rfl ?_|refine zN rfl rfl ?_|refine zQ ?_|refine zR ?_)
      refine rg_start_s ?_
      repeat (first|refine zA rfl ?_|refine zB rfl rfl rfl ?_|refine zC rfl ?_|refine zD rfl ?_|refine zF rfl ?_)
      (refine Rg.front 8 ?_; refine Rg.front 8 ?_; refine Rg.front 8 ?_; refine Rg.front 8 ?_; refine Rg.front 8 ?_; refine Rg.front 8 ?_; refine Rg.front 8 ?_; refine Rg.front 8 ?_; refine Rg.front 8 ?_; refine Rg.front 9 ?_)
      rw [show IntKind.wrap .i64 (1 - c) = 1 - c from wIn (by omega) (by omega)]
      refine rg_call rfl (LookC_bg b S (1 - c) B _ hc' hok (by omega)) ?_
      rintro _ D ⟨la, lc, kn, rfl, hE⟩
      refine ⟨.inl rfl, Rg.ent hE ?_⟩
      unfold lookL
      repeat (first|refine zA rfl ?_|refine zG rfl ?_|refine zI rfl rfl ?_|refine zO rfl rfl ?_|refine zQ ?_|refine zW fun bl=>?_)
      rename_i bk
      refine rg_start_s ?_
      repeat (first|refine zD rfl ?_|refine zE rfl ?_|refine zF rfl ?_|refine zN rfl rfl ?_|refine zQ ?_|refine zR ?_|refine yD ?_)
      (refine Ex.front 2 ?_; refine Ex.front 11 ?_; refine Ex.front 11 ?_; refine Ex.front 11 ?_; refine Ex.front 11 ?_; refine Ex.front 11 ?_; refine Ex.front 11 ?_; refine Ex.front 11 ?_; refine Ex.front 11 ?_; refine Ex.front 11 ?_; refine Ex.front 11 ?_; refine Ex.front 11 ?_)
      refine Ex.ent (Ent.drop (Ent.drop (Ent.refl _))) ?_
      refine Ex.sup (J ⟨_, _, ⟨_, _, _, _, _, _, _⟩⟩ ?_) ⟨rfl, rfl, rfl, rfl, trivial⟩
      unfold mvX
      rw [if_neg (of_decide_eq_false q1), if_neg (of_decide_eq_false q2), if_neg (of_decide_eq_false q3), if_pos (of_decide_eq_true q4)] <;> rfl
    repeat (first|refine zA rfl ?_|refine zB rfl rfl rfl ?_|refine zG rfl ?_|refine zQ ?_|refine zR ?_|refine zS ?_)
    refine ex_cond_split rfl (fun q5 => ?_) (fun q5 => ?_)
    · repeat refine zR ?_
      refine rg_start_s ?_
      repeat (first|refine zD rfl ?_|refine zN rfl rfl ?_|refine zQ ?_|refine zR ?_)
      refine rg_start_s ?_
      repeat (first|refine zA rfl ?_|refine zC rfl ?_|refine zD rfl ?_|refine zF rfl ?_)
      (refine Rg.front 8 ?_; refine Rg.front 8 ?_; refine Rg.front 8 ?_; refine Rg.front 8 ?_; refine Rg.front 8 ?_; refine Rg.front 8 ?_; refine Rg.front 8 ?_; refine Rg.front 8 ?_; refine Rg.front 8 ?_; refine Rg.front 9 ?_)
      refine rg_call rfl (LookC_bg b S c B _ hc hok (by omega)) ?_
      rintro _ D ⟨la, lc, kn, rfl, hE⟩
      refine ⟨.inl rfl, Rg.ent hE ?_⟩
      unfold lookL
      repeat (first|refine zA rfl ?_|refine zG rfl ?_|refine zI rfl rfl ?_|refine zO rfl rfl ?_|refine zQ ?_|refine zW fun bl=>?_)
      rename_i bk
      refine rg_start_s ?_
      repeat (first|refine zE rfl ?_|refine zF rfl ?_|refine zN rfl rfl ?_|refine zQ ?_|refine zR ?_|refine yD ?_)
      (refine Ex.front 2 ?_; refine Ex.front 11 ?_; refine Ex.front 11 ?_; refine Ex.front 11 ?_; refine Ex.front 11 ?_; refine Ex.front 11 ?_; refine Ex.front 11 ?_; refine Ex.front 11 ?_; refine Ex.front 11 ?_; refine Ex.front 11 ?_; refine Ex.front 11 ?_; refine Ex.front 11 ?_)
      refine Ex.ent (Ent.drop (Ent.drop (Ent.refl _))) ?_
      refine Ex.sup (J ⟨_, _, ⟨_, _, _, _, _, _, _⟩⟩ ?_) ⟨rfl, rfl, rfl, rfl, trivial⟩
      unfold mvX
      rw [if_neg (of_decide_eq_false q1), if_neg (of_decide_eq_false q2), if_neg (of_decide_eq_false q3), if_neg (of_decide_eq_false q4), if_pos (of_decide_eq_true q5)] <;> rfl
    repeat (first|refine zA rfl ?_|refine zB rfl rfl rfl ?_|refine zG rfl ?_|refine zQ ?_|refine zR ?_|refine zS ?_)
    refine ex_cond_split rfl (fun q6 => ?_) (fun q6 => ?_)
    · skip
      refine rg_start_s ?_
      repeat (first|refine zD rfl ?_|refine zN rfl rfl ?_|refine zQ ?_|refine zR ?_|refine yD ?_)
      refine Ex.sup (J ⟨_, _, ⟨_, _, _, _, _, _, _⟩⟩ ?_) ⟨rfl, rfl, rfl, rfl, trivial⟩
      unfold mvX
      rw [if_neg (of_decide_eq_false q1), if_neg (of_decide_eq_false q2), if_neg (of_decide_eq_false q3), if_neg (of_decide_eq_false q4), if_neg (of_decide_eq_false q5), if_pos (of_decide_eq_true q6)] <;> rfl
    repeat (first|refine zA rfl ?_|refine zB rfl rfl rfl ?_|refine zG rfl ?_|refine zQ ?_|refine zR ?_|refine zS ?_)
    refine ex_cond_split rfl (fun q7 => ?_) (fun q7 => ?_)
    · skip
      refine rg_start_s ?_
      repeat (first|refine zD rfl ?_|refine zN rfl rfl ?_|refine zQ ?_|refine zR ?_|refine yD ?_)
      refine Ex.sup (J ⟨_, _, ⟨_, _, _, _, _, _, _⟩⟩ ?_) ⟨rfl, rfl, rfl, rfl, trivial⟩
      unfold mvX
      rw [if_neg (of_decide_eq_false q1), if_neg (of_decide_eq_false q2), if_neg (of_decide_eq_false q3), if_neg (of_decide_eq_false q4), if_neg (of_decide_eq_false q5), if_neg (of_decide_eq_false q6), if_pos (of_decide_eq_true q7)] <;> rfl
    repeat (first|refine zA rfl ?_|refine zB rfl rfl rfl ?_|refine zG rfl ?_|refine zQ ?_|refine zR ?_|refine zS ?_)
    refine ex_cond_split rfl (fun q8 => ?_) (fun q8 => ?_)
    · skip
      refine rg_start_s ?_
      repeat (first|refine zD rfl ?_|refine zN rfl rfl ?_|refine zQ ?_|refine zR ?_|refine yD ?_)
      refine Ex.sup (J ⟨_, _, ⟨_, _, _, _, _, _, _⟩⟩ ?_) ⟨rfl, rfl, rfl, rfl, trivial⟩
      unfold mvX
      rw [if_neg (of_decide_eq_false q1), if_neg (of_decide_eq_false q2), if_neg (of_decide_eq_false q3), if_neg (of_decide_eq_false q4), if_neg (of_decide_eq_false q5), if_neg (of_decide_eq_false q6), if_neg (of_decide_eq_false q7), if_pos (of_decide_eq_true q8)] <;> rfl
    repeat (first|refine zA rfl ?_|refine zR ?_|refine zS ?_)
    refine rg_indexStr rfl rfl (by decide) hb2 ?_
    repeat (first|refine zB rfl rfl rfl ?_|refine zG rfl ?_|refine zQ ?_)
    refine ex_cond_split rfl (fun q9 => ?_) (fun q9 => ?_)
    · skip
      refine rg_start_s ?_
      repeat (first|refine zD rfl ?_|refine zN rfl rfl ?_|refine zQ ?_|refine zR ?_|refine yD ?_)
      refine Ex.sup (J ⟨_, _, ⟨_, _, _, _, _, _, _⟩⟩ ?_) ⟨rfl, rfl, rfl, rfl, trivial⟩
      unfold mvX
      rw [if_neg (of_decide_eq_false q1), if_neg (of_decide_eq_false q2), if_neg (of_decide_eq_false q3), if_neg (of_decide_eq_false q4), if_neg (of_decide_eq_false q5), if_neg (of_decide_eq_false q6), if_neg (of_decide_eq_false q7), if_neg (of_decide_eq_false q8), if_pos (of_decide_eq_true q9)] <;> rfl
    repeat (first|refine zA rfl ?_|refine zR ?_|refine zS ?_)
    refine rg_indexStr rfl rfl (by decide) hb2 ?_
    repeat (first|refine zB rfl rfl rfl ?_|refine zG rfl ?_|refine zQ ?_)
    refine ex_cond_split rfl (fun q10 => ?_) (fun q10 => ?_)
    · skip
      refine rg_start_s ?_
      repeat (first|refine zD rfl ?_|refine zN rfl rfl ?_|refine zQ ?_|refine zR ?_|refine yD ?_)
      refine Ex.sup (J ⟨_, _, ⟨_, _, _, _, _, _, _⟩⟩ ?_) ⟨rfl, rfl, rfl, rfl, trivial⟩
      unfold mvX
      rw [if_neg (of_decide_eq_false q1), if_neg (of_decide_eq_false q2), if_neg (of_decide_eq_false q3), if_neg (of_decide_eq_false q4), if_neg (of_decide_eq_false q5), if_neg (of_decide_eq_false q6), if_neg (of_decide_eq_false q7), if_neg (of_decide_eq_false q8), if_neg (of_decide_eq_false q9), if_pos (of_decide_eq_true q10)] <;> rfl
    · repeat refine zR ?_
      refine rg_start_s ?_
      repeat (first|refine zD rfl ?_|refine zN rfl rfl ?_|refine zQ ?_|refine zR ?_)
      refine rg_start_s ?_
      repeat (first|refine zA rfl ?_|refine zC rfl ?_|refine zD rfl ?_|refine zF rfl ?_)
      (refine Rg.front 8 ?_; refine Rg.front 8 ?_; refine Rg.front 8 ?_; refine Rg.front 8 ?_; refine Rg.front 8 ?_; refine Rg.front 8 ?_; refine Rg.front 8 ?_; refine Rg.front 8 ?_; refine Rg.front 8 ?_; refine Rg.front 9 ?_)
      refine rg_call rfl (LookC_bg b S c B _ hc hok (by omega)) ?_
      rintro _ D ⟨la, lc, kn, rfl, hE⟩
      refine ⟨.inl rfl, Rg.ent hE ?_⟩
      unfold lookL
      repeat (first|refine zA rfl ?_|refine zG rfl ?_|refine zI rfl rfl ?_|refine zO rfl rfl ?_|refine zQ ?_|refine zW fun bl=>?_)
      rename_i bk
      refine rg_start_s ?_
      repeat (first|refine zE rfl ?_|refine zF rfl ?_|refine zN rfl rfl ?_|refine zQ ?_|refine zR ?_|refine yD ?_)
      (refine Ex.front 2 ?_; refine Ex.front 11 ?_; refine Ex.front 11 ?_; refine Ex.front 11 ?_; refine Ex.front 11 ?_; refine Ex.front 11 ?_; refine Ex.front 11 ?_; refine Ex.front 11 ?_; refine Ex.front 11 ?_; refine Ex.front 11 ?_; refine Ex.front 11 ?_; refine Ex.front 11 ?_)
      refine Ex.ent (Ent.drop (Ent.drop (Ent.refl _))) ?_
      refine Ex.sup (J ⟨_, _, ⟨_, _, _, _, _, _, _⟩⟩ ?_) ⟨rfl, rfl, rfl, rfl, trivial⟩
      unfold mvX
      rw [if_neg (of_decide_eq_false q1), if_neg (of_decide_eq_false q2), if_neg (of_decide_eq_false q3), if_neg (of_decide_eq_false q4), if_neg (of_decide_eq_false q5), if_neg (of_decide_eq_false q6), if_neg (of_decide_eq_false q7), if_neg (of_decide_eq_false q8), if_neg (of_decide_eq_false q9), if_neg (of_decide_eq_false q10)] <;> rfl
  intro x hx0
  obtain ⟨hx, ha⟩ := mvX_ok hok (by omega) c b1 b2 b3
  rw [← hx0] at hx ha hS ret
  dsimp only [kwL]
  repeat (first|refine zA rfl ?_|refine zC rfl ?_|refine zD rfl ?_|refine zF rfl ?_|refine zH rfl ?_|refine zT (by decide+kernel) (by decide+kernel) ?_)
  (refine Rg.front 8 ?_; refine Rg.front 8 ?_; refine Rg.front 8 ?_; refine Rg.front 8 ?_; refine Rg.front 8 ?_; refine Rg.front 8 ?_; refine Rg.front 8 ?_; refine Rg.front 8 ?_; refine Rg.front 8 ?_; refine Rg.front 9 ?_)
  refine rg_callE rfl (Do_bg b S c x B _ hok (by omega) hx) ?_
  refine ⟨.inr (by (repeat' first | exact trivial | refine ⟨.inr ⟨_, _, _, _, Find.mem, rfl⟩, ?_⟩ | refine ⟨.inr ⟨_, _, _, _, Find.mem, inferInstance⟩, ?_⟩ | refine ⟨.inr ⟨_, Find.mem⟩, ?_⟩ | refine ⟨.inl (by decide +kernel), ?_⟩)), ?_⟩
  repeat (first|refine zA rfl ?_|refine zB rfl rfl rfl ?_|refine zG rfl ?_|refine zI rfl rfl ?_|refine zQ ?_|refine zR ?_|refine zS ?_)
  refine ex_cond_split rfl (fun g => ?_) (fun g => ?_)
  · have he : (bgDo S c x).2.2 ≠ 0 := by simpa using g
    obtain ⟨e1, e2⟩ := do_err c x he
    rw [e1, e2]
    repeat refine zR ?_
    (refine Ex.front 0 ?_; refine Ex.front 9 ?_; refine Ex.front 9 ?_; refine Ex.front 9 ?_; refine Ex.front 9 ?_; refine Ex.front 9 ?_; refine Ex.front 9 ?_; refine Ex.front 9 ?_; refine Ex.front 9 ?_; refine Ex.front 9 ?_)
    (refine rg_start_p [0, 1, 2, 3, 5, 4, 6, 7, 8] (by decide +kernel) (by decide +kernel) (by simp only [permL, List.getElem?_cons_succ, List.getElem?_cons_zero]; rfl) ?_)
    repeat (first|refine zA rfl ?_|refine zB rfl rfl rfl ?_|refine zH rfl ?_)
    (refine Rg.front 1 ?_; refine Rg.front 1 ?_; refine Rg.front 9 ?_; refine Rg.front 9 ?_; refine Rg.front 9 ?_; refine Rg.front 9 ?_; refine Rg.front 9 ?_; refine Rg.front 9 ?_; refine Rg.front 9 ?_; refine Rg.front 9 ?_)
    refine rg_callE rfl (CallsX.ent (EntR.e kw_fold) (total_ok w S r0 r1 B _ k (by omega))) ?_
    refine ⟨.inr (by (repeat' first | exact trivial | refine ⟨.inr ⟨_, _, _, _, Find.mem, rfl⟩, ?_⟩ | refine ⟨.inr ⟨_, _, _, _, Find.mem, inferInstance⟩, ?_⟩ | refine ⟨.inr ⟨_, Find.mem⟩, ?_⟩ | refine ⟨.inl (by decide +kernel), ?_⟩)), ?_⟩
    refine rg_eqArr2 rfl rfl rfl ?_
    repeat (first|refine zG rfl ?_|refine zK rfl rfl ?_|refine zQ ?_)
    (refine Ex.front 0 ?_; refine Ex.front 2 ?_; refine Ex.front 2 ?_)
    exact ex_rete ret Try.func19 rfl (Ent.drop (Ent.drop (Ent.refl _))) ⟨r0, r1, by simp; rfl, by rw [e1]; exact ⟨hok.mono (Nat.le_succ B), k.link⟩, by rw [e1]; exact Ent.refl _⟩
  · have he : (bgDo S c x).2.2 = 0 := by simpa using g
    obtain ⟨e1, e2⟩ := do_link k (by omega) c hc x hx ha he
    repeat (first|refine zA rfl ?_|refine zH rfl ?_|refine zR ?_|refine zS ?_|refine yB ?_)
    (refine Rg.front 2 ?_; refine Rg.front 2 ?_; refine Rg.front 2 ?_; refine Rg.front 9 ?_; refine Rg.front 9 ?_; refine Rg.front 9 ?_; refine Rg.front 9 ?_; refine Rg.front 9 ?_; refine Rg.front 9 ?_; refine Rg.front 9 ?_)
    refine rg_callE rfl (CallsX.ent (EntR.e kw_fold) (took_ok w (bgDo S c x).1 r0 r1 c (bgDo S c x).2.1 x (B + 1) _ e2.ok (by omega) hc (by omega) e1)) ?_
    refine ⟨.inl rfl, ?_⟩
    repeat (first|refine zG rfl ?_|refine zQ ?_)
    (refine Ex.front 0 ?_; refine Ex.front 2 ?_; refine Ex.front 2 ?_)
    exact ex_rete ret Try.func19 rfl (Ent.drop (Ent.drop (Ent.refl _))) ⟨_, _, rfl, e2, Ent.refl _⟩

end Go.Br

namespace Go.Br
open Go Go.Lx Go.Proofs
open Go.Lx renaming rg_move → zA, rg_int → zB, rg_nilCheck → zC, rg_fieldAddr0 → zD, rg_fieldAddr → zE, rg_load → zF, rg_assign → zG, rg_loadAgg → zH, rg_extract → zI, rg_not → zJ, rg_pick → zK, rg_off → zL, rg_offU → zM, rg_store → zN, rg_storeAgg → zO, rg_convInt → zP, rg_done → zQ, ex_seq → zR, rg_start_s → zS, rg_start_d → zT, ex_cond_true → zU, ex_cond_false → zV, rg_alloc → zW, rg_boxAgg → zX, rg_build → zY, rg_lenSl → zZ, rg_lenMap → yA, ex_skip → yB, ex_block → yC, ex_inBlock → yD, ex_exit → yE, rg_caseG → yZ
set_option maxRecDepth 100000

theorem KOk.up {B B' : Nat} {S : Bg} {r0 r1 : List Rec} (k : KOk B S r0 r1) (h : B ≤ B') : KOk B' S r0 r1 := ⟨k.ok.mono h, k.link⟩

/-- The bridge behind n moves. -/
def plS (s : ByteArray) : Nat → Bg
  | 0 => bgNew 1000
  | n + 1 => mvS (plS s n) (s.extract (4 * n) (4 * n + 4))

abbrev PD (s : ByteArray) : Type := Nat × List Rec × List Rec
structure PG (s : ByteArray) (i : PD s) : Prop where
  le : 4 * i.1 ≤ s.size
  ok : KOk (1 + i.1) (plS s i.1) i.2.1 i.2.2

set_option maxHeartbeats 4000000 in
theorem playD_ok (s : ByteArray) (Γ : List Ch) (hs : s.size ≤ 16384) :
    CallsX Try.prog 16 #[.string s] Γ (fun v Δ => ∃ w r0 r1, v = .tuple #[ptrV w, .bool true] ∧ KOk 30000 (plS s (s.size / 4)) r0 r1 ∧ Ent Δ (.pr (KwAt w (plS s (s.size / 4)) r0 r1) :: Γ)) := by
  refine calls_of_body (args := [.string s]) Try.func16 rfl Try.ntmps16 fun X cs ret => ?_
  refine ex_seq (rg_start_s ?_)
  repeat (first|refine zG rfl ?_|refine zQ ?_|refine zR ?_|refine zS ?_)
  refine rg_call rfl (begin_ok Γ) ?_
  rintro _ D ⟨w, rfl, hE⟩
  refine ⟨.inl rfl, Rg.ent hE ?_⟩
  repeat (first|refine zA rfl ?_|refine zG rfl ?_|refine zI rfl rfl ?_|refine zJ rfl ?_|refine zQ ?_|refine zR ?_|refine zS ?_|refine zV rfl ?_|refine yB ?_|refine yC ?_)
  refine ex_loop ?_
  refine ex_ind (ι := PD s) (fun i => 30000 - i.1) (fun i => [(6, .int .i64 ((4 * i.1 : Nat) : Int)), (4, ptrV w), (0, .string s)]) (fun i => .pr (KwAt w (plS s i.1) i.2.1 i.2.2) :: Γ) (PG s) ⟨0, [], []⟩ ⟨by simp, kOk_new⟩ ⟨rfl, rfl, rfl, trivial⟩ rfl (fun i hi IH => ?_)
  obtain ⟨i, r0, r1⟩ := i
  obtain ⟨hi, k⟩ := hi
  dsimp only at hi k IH ⊢
  repeat (first|refine zA rfl ?_|refine zB rfl rfl rfl ?_|refine zR ?_|refine zS ?_)
  rw [rwrap (x := ((4 * i : Nat) : Int) + 3) (by omega)]
  refine rg_lenStr rfl ?_
  repeat (first|refine zB rfl rfl rfl ?_|refine zQ ?_)
  refine ex_cond_split rfl (fun h1 => ?_) (fun h1 => ?_)
  · have h1 := of_decide_eq_true h1
    repeat (first|refine zA rfl ?_|refine zB rfl rfl rfl ?_|refine zR ?_|refine zS ?_|refine yB ?_|refine yC ?_)
    rw [rwrap (x := ((4 * i : Nat) : Int) + 4) (by omega)]
    refine rg_sliceStr rfl rfl rfl (by omega) ?_
    rw [Int.toNat_natCast, show (((4 * i : Nat) : Int) + 4).toNat = 4 * i + 4 by omega]
    refine rg_call rfl (moveD_ok w (plS s i) r0 r1 (s.extract (4 * i) (4 * i + 4)) (1 + i) _ (by rw [ByteArray.size_extract]; omega) k (by omega)) ?_
    rintro _ D ⟨r0', r1', rfl, k', hE⟩
    refine ⟨.inl rfl, Rg.ent hE ?_⟩
    repeat (first|refine zA rfl ?_|refine zB rfl rfl rfl ?_|refine zG rfl ?_|refine zJ rfl ?_|refine zQ ?_|refine zS ?_|refine zV rfl ?_|refine yB ?_|refine yD ?_)
    refine ex_inLoop ?_
    rw [rwrap (x := ((4 * i : Nat) : Int) + 4) (by omega), show ((4 * i : Nat) : Int) + 4 = ((4 * (i + 1) : Nat) : Int) by omega]
    exact Ex.sup (IH ⟨i + 1, r0', r1'⟩ ⟨by show 4 * (i + 1) ≤ _; omega, KOk.up k' (by show 1 + i + 1 ≤ 1 + (i + 1); omega)⟩ (by show 30000 - (i + 1) < 30000 - i; omega)) ⟨rfl, rfl, rfl, trivial⟩
  · have h1 := of_decide_eq_false h1
    have e : s.size / 4 = i := by omega
    rw [e] at ret
    repeat (first|refine zA rfl ?_|refine zG rfl ?_|refine zQ ?_|refine zR ?_|refine zS ?_|refine yE rfl ?_)
    exact ex_rete ret Try.func16 rfl (Ent.refl _) ⟨w, r0, r1, rfl, k.up (by omega), Ent.refl _⟩

end Go.Br

namespace Go.Br
open Go Go.Lx Go.Proofs
set_option maxRecDepth 100000

theorem step_nh {s : Cn} {x : Stp} {kn : Hd} {a b : Nat} (h : x.kind = 3 → ((a : Int) ≤ x.n ↔ (b : Int) ≤ x.n)) : step s x kn a = step s x kn b := by
  unfold step
  by_cases h3 : x.kind = 3
  · have e : ((a : Int) ≤ x.n ∨ x.n ≤ s.known) = ((b : Int) ≤ x.n ∨ x.n ≤ s.known) := by rw [h h3]
    simp only [h3, e]
  · simp only [if_neg h3]

/-- Behind i of the second's steps. -/
structure P1 (S : Bg) (ys : List Stp) (T : Bg) (i : Nat) (rest : List Stp) : Prop where
  s0 : T.s0 = S.s0
  cs : (rCodes S.s0 S.s1 ys).drop i = rCodes S.s0 T.s1 rest
  en : rEnd S.s0 T.s1 rest = rEnd S.s0 S.s1 ys
  tk : T.tk + zeros (rCodes S.s0 T.s1 rest) = S.tk + zeros (rCodes S.s0 S.s1 ys)

/-- Behind all of the second's, and i of the first's. -/
structure P0 (S : Bg) (xs ys : List Stp) (T : Bg) (i : Nat) (rest : List Stp) : Prop where
  s1 : T.s1 = rEnd S.s0 S.s1 ys
  kn : T.s0.known < S.s1.heads.length
  cs : (rCodes S.s1 S.s0 xs).drop i = rCodes S.s1 T.s0 rest
  en : rEnd S.s1 T.s0 rest = rEnd S.s1 S.s0 xs
  tk : T.tk + zeros (rCodes S.s1 T.s0 rest) = S.tk + zeros (rCodes S.s1 S.s0 xs) + zeros (rCodes S.s0 S.s1 ys)

theorem pdrop {α : Type} {l r : List α} {i : Nat} {a : α} (h : l.drop i = a :: r) : l[i]? = some a ∧ l.drop (i + 1) = r := by
  have h1 : (l.drop i)[0]? = some a := by rw [h]; rfl
  rw [List.getElem?_drop] at h1
  refine ⟨h1, ?_⟩
  rw [← List.drop_drop, h]; rfl

theorem P1.step {S T : Bg} {ys rest : List Stp} {i : Nat} {x : Stp} (j : P1 S ys T i (x :: rest)) : (rCodes S.s0 S.s1 ys)[i]? = some (bgDo T 1 x).2.2 ∧ P1 S ys (bgDo T 1 x).1 (i + 1) rest := by
  obtain ⟨h1, h2, h3, h4⟩ := j
  have e : bgDo T 1 x = ({ T with s1 := (Go.Br.step T.s1 x (knOf T.s1 S.s0) S.s0.heads.length).1, tk := if (Go.Br.step T.s1 x (knOf T.s1 S.s0) S.s0.heads.length).2.2 = 0 then T.tk + 1 else T.tk }, (Go.Br.step T.s1 x (knOf T.s1 S.s0) S.s0.heads.length).2.1, (Go.Br.step T.s1 x (knOf T.s1 S.s0) S.s0.heads.length).2.2) := by
    unfold bgDo bgStep
    simp only [if_true, if_neg (show ¬ (1 : Int) = 0 by decide)]
    rw [h1]
  rw [e]
  obtain ⟨a, b⟩ := pdrop (a := (Go.Br.step T.s1 x (knOf T.s1 S.s0) S.s0.heads.length).2.2) (r := rCodes S.s0 (Go.Br.step T.s1 x (knOf T.s1 S.s0) S.s0.heads.length).1 rest) h2
  refine ⟨a, h1, b, h3, ?_⟩
  rw [← h4]
  have hz : zeros (rCodes S.s0 T.s1 (x :: rest)) = if (Go.Br.step T.s1 x (knOf T.s1 S.s0) S.s0.heads.length).2.2 = 0 then zeros (rCodes S.s0 (Go.Br.step T.s1 x (knOf T.s1 S.s0) S.s0.heads.length).1 rest) + 1 else zeros (rCodes S.s0 (Go.Br.step T.s1 x (knOf T.s1 S.s0) S.s0.heads.length).1 rest) := rfl
  rw [hz]
  dsimp only
  by_cases hc : (Go.Br.step T.s1 x (knOf T.s1 S.s0) S.s0.heads.length).2.2 = 0
  · rw [if_pos hc, if_pos hc]; push_cast; omega
  · rw [if_neg hc, if_neg hc]

theorem P0.step {S T : Bg} {xs ys rest : List Stp} {i : Nat} {x : Stp} {l : List Hd} (hl : (rEnd S.s0 S.s1 ys).heads = S.s1.heads ++ l) (hx : x.kind = 3 → x.n < S.s1.heads.length) (j : P0 S xs ys T i (x :: rest)) :
    (rCodes S.s1 S.s0 xs)[i]? = some (bgDo T 0 x).2.2 ∧ P0 S xs ys (bgDo T 0 x).1 (i + 1) rest := by
  obtain ⟨h1, hk, h2, h3, h4⟩ := j
  have hn : T.s1.heads = S.s1.heads ++ l := by rw [h1, hl]
  have e0 : Go.Br.step T.s0 x (knOf T.s0 S.s1) T.s1.heads.length = Go.Br.step T.s0 x (knOf T.s0 S.s1) S.s1.heads.length := step_nh fun h => by
    have := hx h
    rw [hn, List.length_append]; omega
  have e : bgDo T 0 x = ({ T with s0 := (Go.Br.step T.s0 x (knOf T.s0 S.s1) S.s1.heads.length).1, tk := if (Go.Br.step T.s0 x (knOf T.s0 S.s1) S.s1.heads.length).2.2 = 0 then T.tk + 1 else T.tk }, (Go.Br.step T.s0 x (knOf T.s0 S.s1) S.s1.heads.length).2.1, (Go.Br.step T.s0 x (knOf T.s0 S.s1) S.s1.heads.length).2.2) := by
    unfold bgDo bgStep
    simp only [if_true]
    rw [knOf_ext hk hn, e0]
  rw [e]
  obtain ⟨a, b⟩ := pdrop (a := (Go.Br.step T.s0 x (knOf T.s0 S.s1) S.s1.heads.length).2.2) (r := rCodes S.s1 (Go.Br.step T.s0 x (knOf T.s0 S.s1) S.s1.heads.length).1 rest) h2
  refine ⟨a, h1, known_keeps hk x _, b, h3, ?_⟩
  rw [← h4]
  have hz : zeros (rCodes S.s1 T.s0 (x :: rest)) = if (Go.Br.step T.s0 x (knOf T.s0 S.s1) S.s1.heads.length).2.2 = 0 then zeros (rCodes S.s1 (Go.Br.step T.s0 x (knOf T.s0 S.s1) S.s1.heads.length).1 rest) + 1 else zeros (rCodes S.s1 (Go.Br.step T.s0 x (knOf T.s0 S.s1) S.s1.heads.length).1 rest) := rfl
  rw [hz]
  dsimp only
  by_cases hc : (Go.Br.step T.s0 x (knOf T.s0 S.s1) S.s1.heads.length).2.2 = 0
  · rw [if_pos hc, if_pos hc]; push_cast; omega
  · rw [if_neg hc, if_neg hc]

theorem P1.init (S : Bg) (ys : List Stp) : P1 S ys S 0 ys := ⟨rfl, rfl, rfl, rfl⟩
theorem P1.fin {S T : Bg} {ys : List Stp} {i : Nat} (xs : List Stp) (k0 : S.s0.known < S.s1.heads.length) (j : P1 S ys T i []) : P0 S xs ys T 0 xs := by
  obtain ⟨h1, _, h3, h4⟩ := j
  refine ⟨h3, by rw [h1]; exact k0, by rw [h1]; rfl, by rw [h1], ?_⟩
  have h4 : T.tk + ((0 : Nat) : Int) = _ := h4
  rw [h1]
  omega
theorem P0.fin {S T : Bg} {xs ys : List Stp} {i : Nat} (j : P0 S xs ys T i []) : T = bgRun S xs ys := by
  obtain ⟨h1, _, _, h3, h4⟩ := j
  obtain ⟨t0, t1, tk⟩ := T
  have h3 : t0 = _ := h3
  have h4 : tk + ((0 : Nat) : Int) = _ := h4
  have h1 : t1 = _ := h1
  unfold bgRun
  rw [← h3, ← h1]
  simp only [Bg.mk.injEq]
  exact ⟨trivial, trivial, by omega⟩

end Go.Br

namespace Go.Br
open Go Go.Lx Go.Proofs
open Go.Lx renaming rg_move → zA, rg_int → zB, rg_nilCheck → zC, rg_fieldAddr0 → zD, rg_fieldAddr → zE, rg_load → zF, rg_assign → zG, rg_loadAgg → zH, rg_extract → zI, rg_not → zJ, rg_pick → zK, rg_off → zL, rg_offU → zM, rg_store → zN, rg_storeAgg → zO, rg_convInt → zP, rg_done → zQ, ex_seq → zR, rg_start_s → zS, rg_start_d → zT, ex_cond_true → zU, ex_cond_false → zV, rg_alloc → zW, rg_boxAgg → zX, rg_build → zY, rg_lenSl → zZ, rg_lenMap → yA, ex_skip → yB, ex_block → yC, ex_inBlock → yD, ex_exit → yE, rg_caseG → yZ
set_option maxRecDepth 100000

/-- What steps gives: numbers in range; headers are seen up to a height. -/
abbrev PsOk (h : Int) (x : Stp) : Prop := (0 ≤ x.n ∧ x.n < 18446744073709551616) ∧ (x.kind = 3 → x.n = h)

theorem steps_of_sl {v : Value} {xs : List Stp} {Γ : List Ch} : Ent (.pr (SlV 51 9 v (xs.flatMap stC) xs.length) :: Γ) (.pr (StepsAt v xs) :: Γ) := by
  refine Ent.trans slp_ro (Ent.head fun h a => ⟨h, .refl h, ?_⟩)
  rcases a with ⟨e, _, e3⟩ | ⟨bl, cap, slack, e, _, _, _, e5⟩
  · exact ⟨(none, 0), by rw [e, e3], .inl (List.length_eq_zero_iff.1 e3)⟩
  · refine ⟨(some ⟨bl, 0, none⟩, cap), e, .inr ⟨bl, 0, _, _, _, rfl, e5, fun i x hx => ?_⟩⟩
    rw [Nat.zero_add]
    exact sliceL_flat (f := stC) (fun _ => rfl) xs i x hx slack

theorem wuP (x : Int) : 0 ≤ IntKind.wrap .u64 x ∧ IntKind.wrap .u64 x < 18446744073709551616 := by rw [wU]; omega

theorem no3 {k : Int} {A : Prop} (h : k ≠ 3) : k = 3 → A := fun e => absurd e h

abbrev SI : Type := Nat × List Stp × Int × Value
structure SF (n : Nat) (h : Int) (i : SI) : Prop where
  le : i.1 ≤ n + 2
  len : i.2.1.length ≤ 200
  ok : ∀ x ∈ i.2.1, PsOk h x
  rc : 0 ≤ i.2.2.1 ∧ i.2.2.1 < 18446744073709551616

set_option maxHeartbeats 16000000 in
theorem steps_ok (s : ByteArray) (l : List Value) (h rc : Int) (Γ : List Ch) (hs : s.size ≤ 16384) (hl : l.length = 9) (h5 : l[5]? = some (.int .u64 rc)) (hrc : 0 ≤ rc ∧ rc < 18446744073709551616) (hh : 0 ≤ h ∧ h < 18446744073709551616) :
    CallsX Try.prog 33 #[.string s, .agg ⟨l⟩, .int .u64 h] Γ (fun v Δ => ∃ a c xs, v = .slice a xs.length c ∧ xs.length ≤ 200 ∧ (∀ x ∈ xs, PsOk h x) ∧ Ent Δ (.pr (StepsAt v xs) :: Γ)) := by
  obtain ⟨l0, l1, l2, l3, l4, l5, l6, l7, l8, rfl⟩ : ∃ a b c d e f g i j, l = [a, b, c, d, e, f, g, i, j] := by
    match l, hl with
    | [a, b, c, d, e, f, g, i, j], _ => exact ⟨a, b, c, d, e, f, g, i, j, rfl⟩
  simp only [List.getElem?_cons_succ, List.getElem?_cons_zero, Option.some.injEq] at h5
  subst h5
  refine calls_of_body (args := [.string s, .agg ⟨[l0, l1, l2, l3, l4, .int .u64 rc, l6, l7, l8]⟩, .int .u64 h]) Try.func33 rfl Try.ntmps33 fun X cs ret => ?_
  refine ex_seq (rg_start_s (rg_boxAgg rfl fun bo => ?_))
  repeat (first|refine zE rfl ?_|refine zF rfl ?_|refine zG rfl ?_|refine zQ ?_|refine zR ?_|refine zS ?_|refine yC ?_)
  refine ex_loop ?_
  refine Ex.ent (slp_none' (p := true) (el := 51) (m := 9)) ?_
  refine ex_ind (ι := SI) (fun i => 40000 - i.1) (fun i => [(9, .int .i64 (i.1 : Int)), (8, .int .u64 i.2.2.1), (7, i.2.2.2), (4, ptrV bo), (2, .int .u64 h), (0, .string s)])
    (fun i => .pr (SlV 51 9 i.2.2.2 (i.2.1.flatMap stC) i.2.1.length) :: .pt bo true (.cells ⟨[l0, l1, l2, l3, l4, .int .u64 rc, l6, l7, l8]⟩ 55 (0, 0)) :: Γ) (SF s.size h) ⟨0, [], rc, .slice none 0 0⟩ ⟨by simp, by simp, by simp, hrc⟩ ⟨rfl, rfl, rfl, rfl, rfl, rfl, trivial⟩ rfl (fun i hi IH => ?_)
  obtain ⟨i, xs, r, v⟩ := i
  obtain ⟨f1, f2, f3, f4⟩ := hi
  dsimp only at f1 f2 f3 f4 IH ⊢
  refine Ex.open_ (slp_shapeO (p := true)) fun q hq => ?_
  obtain ⟨xa, xc⟩ := q
  dsimp only at hq
  subst hq
  repeat (first|refine zA rfl ?_|refine zB rfl rfl rfl ?_|refine zR ?_|refine zS ?_)
  rw [rwrap (x := (i : Int) + 1) (by omega)]
  refine rg_lenStr rfl ?_
  repeat (first|refine zA rfl ?_|refine zB rfl rfl rfl ?_)
  refine rg_caseG rfl rfl (fun g1 => ?_) (fun g1 => ?_)
  rotate_left
  · repeat (first|refine zA rfl ?_|refine zG rfl ?_|refine zK rfl rfl ?_|refine zL rfl rfl rfl rfl (by decide) trivial rfl ?_|refine zQ ?_|refine zR ?_|refine zS ?_|refine zV rfl ?_|refine yE rfl ?_)
    exact ex_rete ret Try.func33 rfl (Ent.trans steps_of_sl (Ent.cons (Ent.drop (Ent.refl _)))) ⟨xa, xc, xs, rfl, f2, f3, Ent.refl _⟩
  have g1 := of_decide_eq_true g1
  repeat (first|refine zA rfl ?_|refine zB rfl rfl rfl ?_|refine zK rfl rfl ?_|refine zQ ?_|refine zZ rfl ?_)
  refine ex_cond_split rfl (fun g2 => ?_) (fun g2 => ?_)
  rotate_left
  · repeat (first|refine zA rfl ?_|refine zG rfl ?_|refine zQ ?_|refine zR ?_|refine zS ?_|refine yE rfl ?_)
    exact ex_rete ret Try.func33 rfl (Ent.trans steps_of_sl (Ent.cons (Ent.drop (Ent.refl _)))) ⟨xa, xc, xs, rfl, f2, f3, Ent.refl _⟩
  have g2 := of_decide_eq_true g2
  obtain ⟨c1, hc1⟩ : ∃ c : UInt8, s[((i : Int) + 1).toNat]? = some c := ⟨s[((i : Int) + 1).toNat]'(by omega), by rw [getElem?_pos]⟩
  obtain ⟨c0, hc0⟩ : ∃ c : UInt8, s[(i : Int).toNat]? = some c := ⟨s[(i : Int).toNat]'(by omega), by rw [getElem?_pos]⟩
  repeat (first|refine zA rfl ?_|refine zB rfl rfl rfl ?_|refine zR ?_|refine zS ?_|refine yB ?_|refine yC ?_)
  rw [rwrap (x := (i : Int) + 1) (by omega)]
  refine rg_indexStr rfl rfl (by omega) hc1 ?_
  refine rg_rem rfl rfl (by decide) ?_
  repeat (first|refine zA rfl ?_|refine zO rfl rfl ?_|refine zP rfl ?_|refine zQ ?_|refine zR ?_|refine zS ?_|refine zW fun bl=>?_|refine zY rfl ?_)
  refine rg_indexStr rfl rfl (by omega) hc0 ?_
  refine rg_rem rfl rfl (by decide) ?_
  repeat (first|refine zQ ?_|refine zR ?_|refine yC ?_)
  generalize hn0 : IntKind.wrap .u64 (Int.tmod (c1.toNat : Int) 8) = n0
  have hn := wuP (Int.tmod (c1.toNat : Int) 8)
  rw [hn0] at hn
  generalize Int.tmod (c0.toNat : Int) 8 = x
  apply joinC (ι := Stp × Int) (fun y => PsOk h y.1 ∧ (0 ≤ y.2 ∧ y.2 < 18446744073709551616)) (fun y => [(10, ptrV bl), (9, .int .i64 (i : Int)), (8, .int .u64 y.2), (7, .slice xa xs.length xc), (4, ptrV bo), (2, .int .u64 h), (0, .string s)]) (fun y => .pt bl true (.cells ⟨stC y.1⟩ 51 (0, 0)) :: .pr (SlV 51 9 (.slice xa xs.length xc) (xs.flatMap stC) xs.length) :: .pt bo true (.cells ⟨[l0, l1, l2, l3, l4, .int .u64 rc, l6, l7, l8]⟩ 55 (0, 0)) :: Γ)
  · intro J
    apply joinC (ι := Bool) (fun _ => True) (fun g => [(37, .bool g), (35, .int .u8 x), (10, ptrV bl), (9, .int .i64 (i : Int)), (8, .int .u64 r), (7, .slice xa xs.length xc), (4, ptrV bo), (2, .int .u64 h), (0, .string s)]) (fun _ => .pt bl true (.cells ⟨stC ⟨0, n0, ⟨0, 0, 0, 0, 0, 0, 0⟩⟩⟩ 51 (0, 0)) :: .pr (SlV 51 9 (.slice xa xs.length xc) (xs.flatMap stC) xs.length) :: .pt bo true (.cells ⟨[l0, l1, l2, l3, l4, .int .u64 rc, l6, l7, l8]⟩ 55 (0, 0)) :: Γ)
    · intro J1
      repeat (first|refine zB rfl rfl rfl ?_|refine zG rfl ?_|refine zQ ?_|refine zS ?_)
      refine ex_cond_split rfl (fun q => ?_) (fun q => ?_)
      · repeat refine yB ?_
        exact Ex.sup (J1 _ trivial) ⟨rfl, rfl, rfl, rfl, rfl, rfl, rfl, rfl, rfl, trivial⟩
      · skip
        refine rg_start_s ?_
        repeat (first|refine zB rfl rfl rfl ?_|refine zG rfl ?_|refine zQ ?_)
        exact Ex.sup (J1 _ trivial) ⟨rfl, rfl, rfl, rfl, rfl, rfl, rfl, rfl, rfl, trivial⟩
    intro g _
    refine ex_cond_split rfl (fun q => ?_) (fun q => ?_)
    · repeat refine zR ?_
      refine rg_start_s ?_
      repeat (first|refine zD rfl ?_|refine zN rfl rfl ?_|refine zQ ?_)
      refine rg_start_d (by decide+kernel) (by decide+kernel) ?_
      repeat (first | (first|refine zA rfl ?_|refine zB rfl rfl rfl ?_|refine zE rfl ?_|refine zO rfl rfl ?_|refine zP rfl ?_|refine zQ ?_|refine zY rfl ?_|refine yD ?_) | refine rg_indexStr rfl rfl (by omega) hc1 ?_ | refine rg_rem rfl rfl (by decide) ?_ | refine rg_quo rfl rfl (by decide) ?_ | rw [rwrap (x := (i : Int) + 1) (by omega)])
      refine Ex.sup (J ⟨⟨_, _, ⟨_, _, _, _, _, _, _⟩⟩, _⟩ ⟨⟨hn, no3 (k := 1) (by decide)⟩, f4⟩) ?_; exact ⟨rfl, rfl, rfl, rfl, rfl, rfl, rfl, trivial⟩
    repeat (first|refine zB rfl rfl rfl ?_|refine zG rfl ?_|refine zQ ?_|refine zR ?_|refine zS ?_)
    refine ex_cond_split rfl (fun q2 => ?_) (fun q2 => ?_)
    · skip
      refine rg_start_s ?_
      repeat (first|refine zD rfl ?_|refine zN rfl rfl ?_|refine zQ ?_|refine yD ?_)
      refine Ex.sup (J ⟨⟨_, _, ⟨_, _, _, _, _, _, _⟩⟩, _⟩ ⟨⟨hn, no3 (k := 2) (by decide)⟩, f4⟩) ?_; exact ⟨rfl, rfl, rfl, rfl, rfl, rfl, rfl, trivial⟩
    repeat (first|refine zB rfl rfl rfl ?_|refine zG rfl ?_|refine zQ ?_|refine zR ?_|refine zS ?_)
    refine ex_cond_split rfl (fun q3 => ?_) (fun q3 => ?_)
    · repeat refine zR ?_
      refine rg_start_s ?_
      repeat (first|refine zD rfl ?_|refine zN rfl rfl ?_|refine zQ ?_)
      refine rg_start_s ?_
      repeat (first|refine zA rfl ?_|refine zE rfl ?_|refine zN rfl rfl ?_|refine zQ ?_|refine yD ?_)
      refine Ex.sup (J ⟨⟨_, _, ⟨_, _, _, _, _, _, _⟩⟩, _⟩ ⟨⟨hh, fun _ => rfl⟩, f4⟩) ?_; exact ⟨rfl, rfl, rfl, rfl, rfl, rfl, rfl, trivial⟩
    apply joinC (ι := Bool) (fun _ => True) (fun g => [(77, .bool g), (35, .int .u8 x), (10, ptrV bl), (9, .int .i64 (i : Int)), (8, .int .u64 r), (7, .slice xa xs.length xc), (4, ptrV bo), (2, .int .u64 h), (0, .string s)]) (fun _ => .pt bl true (.cells ⟨stC ⟨0, n0, ⟨0, 0, 0, 0, 0, 0, 0⟩⟩⟩ 51 (0, 0)) :: .pr (SlV 51 9 (.slice xa xs.length xc) (xs.flatMap stC) xs.length) :: .pt bo true (.cells ⟨[l0, l1, l2, l3, l4, .int .u64 rc, l6, l7, l8]⟩ 55 (0, 0)) :: Γ)
    · intro J2
      repeat (first|refine zB rfl rfl rfl ?_|refine zG rfl ?_|refine zQ ?_|refine zR ?_|refine zS ?_)
      refine ex_cond_split rfl (fun q => ?_) (fun q => ?_)
      · repeat refine yB ?_
        exact Ex.sup (J2 _ trivial) ⟨rfl, rfl, rfl, rfl, rfl, rfl, rfl, rfl, rfl, trivial⟩
      · skip
        refine rg_start_s ?_
        repeat (first|refine zB rfl rfl rfl ?_|refine zG rfl ?_|refine zQ ?_)
        exact Ex.sup (J2 _ trivial) ⟨rfl, rfl, rfl, rfl, rfl, rfl, rfl, rfl, rfl, trivial⟩
    intro g4 _
    refine ex_cond_split rfl (fun q4 => ?_) (fun q4 => ?_)
    · repeat refine zR ?_
      refine rg_start_s ?_
      repeat (first|refine zD rfl ?_|refine zN rfl rfl ?_|refine zQ ?_|refine zR ?_)
      refine rg_start_s ?_
      repeat (first|refine zA rfl ?_|refine zE rfl ?_|refine zN rfl rfl ?_|refine zQ ?_)
      refine rg_start_s ?_
      repeat (first|refine zA rfl ?_|refine zB rfl rfl rfl ?_|refine zG rfl ?_|refine zQ ?_|refine yD ?_)
      refine Ex.sup (J ⟨⟨_, _, ⟨_, _, _, _, _, _, _⟩⟩, IntKind.wrap .u64 (r + 1)⟩ ⟨⟨f4, no3 (k := 4) (by decide)⟩, wuP (r + 1)⟩) ?_; exact ⟨rfl, rfl, rfl, rfl, rfl, rfl, rfl, trivial⟩
    repeat (first|refine zB rfl rfl rfl ?_|refine zG rfl ?_|refine zQ ?_|refine zR ?_|refine zS ?_)
    refine ex_cond_split rfl (fun q5 => ?_) (fun q5 => ?_)
    · skip
      refine rg_start_s ?_
      repeat (first|refine zD rfl ?_|refine zN rfl rfl ?_|refine zQ ?_|refine yD ?_)
      refine Ex.sup (J ⟨⟨_, _, ⟨_, _, _, _, _, _, _⟩⟩, _⟩ ⟨⟨hn, no3 (k := 5) (by decide)⟩, f4⟩) ?_; exact ⟨rfl, rfl, rfl, rfl, rfl, rfl, rfl, trivial⟩
    · skip
      refine rg_start_s ?_
      repeat (first|refine zD rfl ?_|refine zN rfl rfl ?_|refine zQ ?_|refine yD ?_)
      refine Ex.sup (J ⟨⟨_, _, ⟨_, _, _, _, _, _, _⟩⟩, _⟩ ⟨⟨hn, no3 (k := 6) (by decide)⟩, f4⟩) ?_; exact ⟨rfl, rfl, rfl, rfl, rfl, rfl, rfl, trivial⟩
  rintro ⟨y, r'⟩ ⟨hy, hr⟩
  dsimp only
  repeat (first|refine zA rfl ?_|refine zH rfl ?_|refine zS ?_)
  refine rg_buildSlice (vs := [.agg ⟨stC y⟩]) rfl rfl rfl rfl (fun b2 => ?_)
  (refine Rg.front 2 ?_)
  refine rg_append (xs := xs.flatMap stC) (ys := stC y) (len := xs.length) (c := 1) rfl rfl (.inr ⟨b2, 0, 1, true, stC y, 51, (0, 0), rfl, Find.mem, inferInstance⟩) (fun v hv => by simp only [stC, List.mem_cons, List.not_mem_nil, or_false] at hv; rcases hv with rfl | rfl | rfl | rfl | rfl | rfl | rfl | rfl | rfl <;> rfl) (by omega) (by omega) (fun s' => .inl rfl) (fun s' hone => ?_)
  repeat (first|refine zA rfl ?_|refine zB rfl rfl rfl ?_|refine zG rfl ?_|refine zQ ?_|refine zS ?_|refine yD ?_)
  (refine Ex.front 3 ?_; refine Ex.front 1 ?_; refine Ex.front 3 ?_; refine Ex.front 3 ?_)
  refine Ex.drop (Ex.drop ?_)
  refine ex_inLoop ?_
  rw [rwrap (x := (i : Int) + 2) (by omega), show (i : Int) + 2 = ((i + 2 : Nat) : Int) by omega, show xs.flatMap stC ++ stC y = (xs ++ [y]).flatMap stC by simp, show xs.length + 1 = (xs ++ [y]).length by simp]
  exact Ex.sup (IH ⟨i + 2, xs ++ [y], r', s'⟩ ⟨by show i + 2 ≤ _; omega, by show (xs ++ [y]).length ≤ 200; simp; omega, fun z hz => by
    rcases List.mem_append.1 hz with e | e
    · exact f3 z e
    · rw [List.mem_singleton.1 e]; exact hy, hr⟩ (by show 40000 - (i + 2) < 40000 - i; omega)) ⟨rfl, rfl, rfl, rfl, rfl, rfl, trivial⟩
end Go.Br
