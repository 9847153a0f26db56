/-
  Lemmas towards the law, proved without conditions of their own: KEEP: begin: a new world; a small one is tried; KEEP: play, and the laws Once and Conserved.
-/
import Derived.Test.YtedaknlacigbhaaPk22
namespace Go.Br
open Go Go.Lx Go.Proofs
open Go.Lx renaming rg_move → zA, rg_int → zB, rg_nilCheck → zC, rg_fieldAddr0 → zD, rg_fieldAddr → zE, rg_load → zF, rg_assign → zG, rg_loadAgg → zH, rg_extract → zI, rg_not → zJ, rg_pick → zK, rg_off → zL, rg_offU → zM, rg_store → zN, rg_storeAgg → zO, rg_convInt → zP, rg_done → zQ, ex_seq → zR, rg_start_s → zS, rg_start_d → zT, ex_cond_true → zU, ex_cond_false → zV, rg_alloc → zW, rg_boxAgg → zX, rg_build → zY, rg_lenSl → zZ, rg_lenMap → yA, ex_skip → yB, ex_block → yC, ex_inBlock → yD, ex_exit → yE, rg_caseG → yZ
set_option maxRecDepth 100000

abbrev tS1 : Stp := ⟨1, 0, ⟨0, 1, 2, 0, 3, 9, 0⟩⟩
abbrev tS2 : Stp := ⟨2, 0, ⟨0, 0, 0, 0, 0, 0, 0⟩⟩
abbrev tS3 : Stp := ⟨3, 1, ⟨0, 0, 0, 0, 0, 0, 0⟩⟩
abbrev tS4 : Stp := ⟨4, 1, ⟨0, 0, 0, 0, 0, 0, 0⟩⟩
def tB1 : Bg := (bgDo (bgNew 5) 0 tS1).1
def tB2 : Bg := (bgDo tB1 0 tS2).1
def tB3 : Bg := (bgDo tB2 1 tS3).1
def tB4 : Bg := (bgDo tB3 1 tS4).1
theorem tE1 : (bgDo (bgNew 5) 0 tS1).2 = (1, 0) := by decide +kernel
theorem tE2 : (bgDo tB1 0 tS2).2 = (0, 0) := by decide +kernel
theorem tE3 : (bgDo tB2 1 tS3).2 = (0, 0) := by decide +kernel
theorem tE4 : (bgDo tB3 1 tS4).2 = (0, 0) := by decide +kernel
theorem tH0 : bgBal tB4 0 1 0 = 2 := by decide +kernel
theorem tH1 : bgBal tB4 1 2 0 = 3 := by decide +kernel
theorem tO1 : BgOk 2 tB1 := bgStep_keeps (newOk 5 (by decide)) (by decide) 0 tS1 (by decide) _ (Nat.le_refl _)
theorem tO2 : BgOk 3 tB2 := bgStep_keeps tO1 (by decide) 0 tS2 (by decide) _ (Nat.le_refl _)
theorem tO3 : BgOk 4 tB3 := bgStep_keeps tO2 (by decide) 1 tS3 (by decide) _ (Nat.le_refl _)
theorem tO4 : BgOk 5 tB4 := bgStep_keeps tO3 (by decide) 1 tS4 (by decide) _ (Nat.le_refl _)

theorem Do_at (b : Nat) (S : Bg) (c : Int) (x : Stp) (B : Nat) (Γ : List Ch) (ok : BgOk B S) (hB : B < 100000000) (hx : 0 ≤ x.n ∧ x.n < 18446744073709551616) (S' : Bg) (n e : Int) (h : bgDo S c x = (S', n, e)) :
    CallsX Try.prog 22 #[ptrV b, .int .i64 c, stV x] (.pr (BgAt b S) :: Γ) (fun v Δ => v = .tuple #[.int .u64 n, .int .i64 e] ∧ Ent Δ (.pr (BgAt b S') :: Γ)) := by
  have e := Do_bg b S c x B Γ ok hB hx
  rw [h] at e; exact e

theorem Bal_at (b : Nat) (S : Bg) (c u co : Int) (B : Nat) (Γ : List Ch) (ok : BgOk B S) (hB : B < 100000000) (n : Int) (h : bgBal S c u co = n) :
    CallsX Try.prog 30 #[ptrV b, .int .i64 c, .int .i64 u, .int .i64 co] (.pr (BgAt b S) :: Γ) (fun v Δ => v = .int .u64 n ∧ Ent Δ (.pr (BgAt b S) :: Γ)) := by
  have e := Balance_bg b S c u co B Γ ok hB
  rw [h] at e; exact e

abbrev kvNil : KV := ⟨.slice none 0 0, .slice none 0 0, .slice none 0 0, .slice none 0 0, .slice none 0 0, .slice none 0 0⟩
theorem kw_new {w b : Nat} {S : Bg} {Γ : List Ch} : Ent (kwC w b kvNil :: .pr (BgAt b S) :: Γ) (.pr (KwAt w S [] []) :: Γ) := by
  refine Ent.trans ?_ (EntR.e (kw_fold (b := b) (v := kvNil)))
  refine Ent.cons (Ent.trans slp_none' (Ent.cons (Ent.trans slp_none' (Ent.cons (Ent.trans slp_none' (Ent.cons (Ent.trans slp_none' (Ent.cons (Ent.trans slp_none' (Ent.cons (Ent.trans slp_none' (Ent.cons (Ent.refl _)))))))))))))

set_option maxHeartbeats 4000000 in
theorem begin_ok (Γ : List Ch) :
    CallsX Try.prog 17 #[] Γ (fun v Δ => ∃ w, v = .tuple #[ptrV w, .bool true] ∧ Ent Δ (.pr (KwAt w (bgNew 1000) [] []) :: Γ)) := by
  refine calls_of_body (args := []) Try.func17 rfl Try.ntmps17 fun X cs ret => ?_
  refine ex_seq (rg_start_s ?_)
  repeat (first|refine zG rfl ?_|refine zQ ?_|refine zR ?_|refine zS ?_)
  refine rg_call rfl (New_bg 1000 Γ (by decide)) ?_
  rintro _ D ⟨b1, rfl, hE⟩
  refine ⟨.inl rfl, Rg.ent hE ?_⟩
  repeat (first|refine zA rfl ?_|refine zG rfl ?_|refine zI rfl rfl ?_|refine zQ ?_|refine zR ?_|refine zS ?_)
  refine rg_call rfl (New_bg 5 _ (by decide)) ?_
  rintro _ D ⟨b2, rfl, hE⟩
  refine ⟨.inl rfl, Rg.ent hE ?_⟩
  repeat (first|refine zA rfl ?_|refine zG rfl ?_|refine zI rfl rfl ?_|refine zQ ?_|refine zR ?_|refine zS ?_)
  refine rg_eqPtrNil rfl rfl ?_
  repeat refine zA rfl ?_
  refine rg_eqPtrNil rfl rfl ?_
  repeat (first|refine zA rfl ?_|refine zB rfl rfl rfl ?_|refine zK rfl rfl ?_|refine zQ ?_|refine zR ?_|refine zS ?_|refine zV rfl ?_|refine zY rfl ?_|refine yB ?_)
  refine rg_callE rfl (Do_at b2 (bgNew 5) 0 tS1 1 _ (newOk 5 (by decide)) (by decide) (by decide) tB1 1 0 (Prod.ext rfl tE1)) ?_
  refine ⟨.inl rfl, ?_⟩
  repeat (first|refine zA rfl ?_|refine zG rfl ?_|refine zI rfl rfl ?_|refine zQ ?_|refine zR ?_|refine zS ?_|refine zY rfl ?_)
  refine rg_callE rfl (Do_at b2 tB1 0 tS2 2 _ tO1 (by decide) (by decide) tB2 0 0 (Prod.ext rfl tE2)) ?_
  refine ⟨.inl rfl, ?_⟩
  repeat (first|refine zA rfl ?_|refine zG rfl ?_|refine zI rfl rfl ?_|refine zQ ?_|refine zR ?_|refine zS ?_|refine zY rfl ?_)
  refine rg_callE rfl (Do_at b2 tB2 1 tS3 3 _ tO2 (by decide) (by decide) tB3 0 0 (Prod.ext rfl tE3)) ?_
  refine ⟨.inl rfl, ?_⟩
  repeat (first|refine zA rfl ?_|refine zG rfl ?_|refine zI rfl rfl ?_|refine zQ ?_|refine zR ?_|refine zS ?_|refine zY rfl ?_)
  refine rg_callE rfl (Do_at b2 tB3 1 tS4 4 _ tO3 (by decide) (by decide) tB4 0 0 (Prod.ext rfl tE4)) ?_
  refine ⟨.inl rfl, ?_⟩
  repeat (first|refine zA rfl ?_|refine zB rfl rfl rfl ?_|refine zG rfl ?_|refine zI rfl rfl ?_|refine zK rfl rfl ?_|refine zQ ?_|refine zR ?_|refine zS ?_|refine zX rfl fun bl=>?_|refine zY rfl ?_)
  (refine Rg.front 2 ?_; refine Rg.front 1 ?_; refine Rg.front 2 ?_)
  refine rg_callE rfl (Bal_at b2 tB4 0 1 0 5 _ tO4 (by decide) 2 tH0) ?_
  refine ⟨.inl rfl, ?_⟩
  repeat (first|refine zA rfl ?_|refine zB rfl rfl rfl ?_|refine zK rfl rfl ?_)
  refine rg_callE rfl (Bal_at b2 tB4 1 2 0 5 _ tO4 (by decide) 3 tH1) ?_
  refine ⟨.inl rfl, ?_⟩
  repeat (first|refine zB rfl rfl rfl ?_|refine zG rfl ?_|refine zK rfl rfl ?_|refine zQ ?_)
  exact ex_rete ret Try.func17 rfl (Ent.drop (Ent.refl _)) ⟨_, rfl, kw_new⟩

theorem kOk_new : KOk 1 (bgNew 1000) [] [] := ⟨newOk 1000 (by decide), link_new 1000 (by decide)⟩

end Go.Br

namespace Go.Br
open Go Go.Lx Go.Proofs
open Go.Lx renaming rg_move → zA, rg_int → zB, rg_nilCheck → zC, rg_fieldAddr0 → zD, rg_fieldAddr → zE, rg_load → zF, rg_assign → zG, rg_loadAgg → zH, rg_extract → zI, rg_not → zJ, rg_pick → zK, rg_off → zL, rg_offU → zM, rg_store → zN, rg_storeAgg → zO, rg_convInt → zP, rg_done → zQ, ex_seq → zR, rg_start_s → zS, rg_start_d → zT, ex_cond_true → zU, ex_cond_false → zV, rg_alloc → zW, rg_boxAgg → zX, rg_build → zY, rg_lenSl → zZ, rg_lenMap → yA, ex_skip → yB, ex_block → yC, ex_inBlock → yD, ex_exit → yE, rg_caseG → yZ
set_option maxRecDepth 100000

theorem KOk.mono {B B' : Nat} {S : Bg} {r0 r1 : List Rec} (k : KOk B S r0 r1) (h : B ≤ B') : KOk B' S r0 r1 := ⟨k.ok.mono h, k.link⟩

abbrev PS : Type := Nat × Bg × List Rec × List Rec
abbrev PF (i : PS) : Prop := i.1 ≤ 20000 ∧ KOk (1 + i.1) i.2.1 i.2.2.1 i.2.2.2

set_option maxHeartbeats 4000000 in
theorem play_ok (s : ByteArray) (Γ : List Ch) (hs : s.size ≤ 16384) :
    CallsX Try.prog 16 #[.string s] Γ (fun v Δ => ∃ w S r0 r1, v = .tuple #[ptrV w, .bool true] ∧ KOk 30000 S r0 r1 ∧ Ent Δ (.pr (KwAt w S r0 r1) :: Γ)) := by
  refine calls_of_body (args := [.string s]) Try.func16 rfl Try.ntmps16 fun X cs ret => ?_
  refine ex_seq (rg_start_s ?_)
  repeat (first|refine zG rfl ?_|refine zQ ?_|refine zR ?_|refine zS ?_)
  refine rg_call rfl (begin_ok Γ) ?_
  rintro _ D ⟨w, rfl, hE⟩
  refine ⟨.inl rfl, Rg.ent hE ?_⟩
  repeat (first|refine zA rfl ?_|refine zG rfl ?_|refine zI rfl rfl ?_|refine zJ rfl ?_|refine zQ ?_|refine zR ?_|refine zS ?_|refine zV rfl ?_|refine yB ?_|refine yC ?_)
  refine ex_loop ?_
  refine ex_ind (ι := PS) (fun i => 30000 - i.1) (fun i => [(6, .int .i64 (i.1 : Int)), (4, ptrV w), (0, .string s)]) (fun i => .pr (KwAt w i.2.1 i.2.2.1 i.2.2.2) :: Γ) PF ⟨0, bgNew 1000, [], []⟩ ⟨by decide, kOk_new⟩ ⟨rfl, rfl, rfl, trivial⟩ rfl (fun i hi IH => ?_)
  obtain ⟨i, S, r0, r1⟩ := i
  obtain ⟨hi, k⟩ := hi
  dsimp only at hi k IH ⊢
  repeat (first|refine zA rfl ?_|refine zB rfl rfl rfl ?_|refine zR ?_|refine zS ?_)
  rw [rwrap (x := (i : Int) + 3) (by omega)]
  refine rg_lenStr rfl ?_
  repeat (first|refine zB rfl rfl rfl ?_|refine zQ ?_)
  refine ex_cond_split rfl (fun h1 => ?_) (fun h1 => ?_)
  · have h1 := of_decide_eq_true h1
    repeat (first|refine zA rfl ?_|refine zB rfl rfl rfl ?_|refine zR ?_|refine zS ?_|refine yB ?_|refine yC ?_)
    rw [rwrap (x := (i : Int) + 4) (by omega)]
    refine rg_sliceStr rfl rfl rfl (by omega) ?_
    refine rg_call rfl (move_ok w S r0 r1 _ (1 + i) _ (by rw [ByteArray.size_extract]; omega) k (by omega)) ?_
    rintro _ D ⟨S', r0', r1', rfl, k', hE⟩
    refine ⟨.inl rfl, Rg.ent hE ?_⟩
    repeat (first|refine zA rfl ?_|refine zB rfl rfl rfl ?_|refine zG rfl ?_|refine zJ rfl ?_|refine zQ ?_|refine zS ?_|refine zV rfl ?_|refine yB ?_|refine yD ?_)
    refine ex_inLoop ?_
    rw [rwrap (x := (i : Int) + 4) (by omega)]
    exact Ex.sup (IH ⟨i + 4, S', r0', r1'⟩ ⟨by omega, k'.mono (by omega)⟩ (by show 30000 - (i + 4) < 30000 - i; omega)) ⟨rfl, rfl, rfl, trivial⟩
  · repeat (first|refine zA rfl ?_|refine zG rfl ?_|refine zQ ?_|refine zR ?_|refine zS ?_|refine yE rfl ?_)
    exact ex_rete ret Try.func16 rfl (Ent.refl _) ⟨w, S, r0, r1, rfl, k.mono (by omega), Ent.refl _⟩

theorem once_ok (s : ByteArray) (Γ : List Ch) : CallsX Try.prog 4 #[.string s] Γ (fun v _ => v = .bool true) := by
  refine calls_of_body (args := [.string s]) Try.func4 rfl Try.ntmps4 fun X cs ret => ?_
  repeat (first|refine zA rfl ?_|refine zG rfl ?_|refine zQ ?_|refine zR ?_|refine zS ?_)
  refine rg_lenStr rfl ?_
  repeat (first|refine zB rfl rfl rfl ?_|refine zQ ?_)
  refine ex_cond_split rfl (fun h1 => ?_) (fun h1 => ?_)
  · repeat (first|refine zG rfl ?_|refine zQ ?_|refine zR ?_|refine zS ?_)
    exact ex_retc ret Try.func4 rfl rfl
  · have h1 := of_decide_eq_false h1
    repeat (first|refine zA rfl ?_|refine zR ?_|refine zS ?_|refine yB ?_)
    refine rg_call rfl (play_ok s Γ (by omega)) ?_
    rintro _ D ⟨w, S, r0, r1, rfl, k, hE⟩
    refine ⟨.inl rfl, Rg.ent hE ?_⟩
    repeat (first|refine zA rfl ?_|refine zG rfl ?_|refine zI rfl rfl ?_|refine zQ ?_|refine zR ?_|refine zS ?_)
    exact ex_retc ret Try.func4 rfl rfl

set_option maxHeartbeats 4000000 in
theorem conserved_ok (s : ByteArray) (Γ : List Ch) : CallsX Try.prog 5 #[.string s] Γ (fun v _ => v = .bool true) := by
  refine calls_of_body (args := [.string s]) Try.func5 rfl Try.ntmps5 fun X cs ret => ?_
  repeat (first|refine zA rfl ?_|refine zG rfl ?_|refine zQ ?_|refine zR ?_|refine zS ?_)
  refine rg_lenStr rfl ?_
  repeat (first|refine zB rfl rfl rfl ?_|refine zQ ?_)
  refine ex_cond_split rfl (fun h1 => ?_) (fun h1 => ?_)
  · repeat (first|refine zG rfl ?_|refine zQ ?_|refine zR ?_|refine zS ?_)
    exact ex_retc ret Try.func5 rfl rfl
  have hs := of_decide_eq_false h1
  repeat (first|refine zR ?_|refine zS ?_|refine yB ?_)
  refine rg_call rfl (begin_ok Γ) ?_
  rintro _ D ⟨w, rfl, hE⟩
  refine ⟨.inl rfl, Rg.ent hE ?_⟩
  repeat (first|refine zA rfl ?_|refine zG rfl ?_|refine zI rfl rfl ?_|refine zJ rfl ?_|refine zQ ?_|refine zR ?_|refine zS ?_)
  refine rg_callE rfl (kept_ok w _ _ _ 1 _ kOk_new (by decide)) ?_
  refine ⟨.inl rfl, ?_⟩
  repeat (first|refine zG rfl ?_|refine zJ rfl ?_|refine zK rfl rfl ?_|refine zQ ?_|refine zR ?_|refine zS ?_|refine zV rfl ?_|refine yB ?_|refine yC ?_)
  refine ex_loop ?_
  refine ex_ind (ι := PS) (fun i => 30000 - i.1) (fun i => [(5, .int .i64 (i.1 : Int)), (3, ptrV w), (0, .string s)]) (fun i => .pr (KwAt w i.2.1 i.2.2.1 i.2.2.2) :: Γ) PF ⟨0, bgNew 1000, [], []⟩ ⟨by decide, kOk_new⟩ ⟨rfl, rfl, rfl, trivial⟩ rfl (fun i hi IH => ?_)
  obtain ⟨i, S, r0, r1⟩ := i
  obtain ⟨hi, k⟩ := hi
  dsimp only at hi k IH ⊢
  repeat (first|refine zA rfl ?_|refine zB rfl rfl rfl ?_|refine zR ?_|refine zS ?_)
  rw [rwrap (x := (i : Int) + 3) (by omega)]
  refine rg_lenStr rfl ?_
  repeat (first|refine zB rfl rfl rfl ?_|refine zQ ?_)
  refine ex_cond_split rfl (fun h1 => ?_) (fun h1 => ?_)
  · have h1 := of_decide_eq_true h1
    repeat (first|refine zA rfl ?_|refine zB rfl rfl rfl ?_|refine zR ?_|refine zS ?_|refine yB ?_|refine yC ?_)
    rw [rwrap (x := (i : Int) + 4) (by omega)]
    refine rg_sliceStr rfl rfl rfl (by omega) ?_
    refine rg_call rfl (move_ok w S r0 r1 _ (1 + i) _ (by rw [ByteArray.size_extract]; omega) k (by omega)) ?_
    rintro _ D ⟨S', r0', r1', rfl, k', hE⟩
    refine ⟨.inl rfl, Rg.ent hE ?_⟩
    repeat (first|refine zA rfl ?_|refine zJ rfl ?_)
    refine rg_callE rfl (kept_ok w _ _ _ _ _ k' (by omega)) ?_
    refine ⟨.inl rfl, ?_⟩
    repeat (first|refine zA rfl ?_|refine zB rfl rfl rfl ?_|refine zG rfl ?_|refine zJ rfl ?_|refine zK rfl rfl ?_|refine zQ ?_|refine zS ?_|refine zV rfl ?_|refine yB ?_|refine yD ?_)
    refine ex_inLoop ?_
    rw [rwrap (x := (i : Int) + 4) (by omega)]
    exact Ex.sup (IH ⟨i + 4, S', r0', r1'⟩ ⟨by omega, k'.mono (by omega)⟩ (by show 30000 - (i + 4) < 30000 - i; omega)) ⟨rfl, rfl, rfl, trivial⟩
  · repeat (first|refine zG rfl ?_|refine zQ ?_|refine zR ?_|refine zS ?_|refine yE rfl ?_)
    exact ex_retc ret Try.func5 rfl rfl

end Go.Br
