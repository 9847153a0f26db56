/-
  Lemmas towards the law, proved without conditions of their own: KEEP: begin: a new world; a small one is tried; KEEP: play, and the laws Once and Conserved; KEEP: the way back: both ends closed, each sees the other as it is: what is pending is answered, or comes back. Plain law; KEEP: meet: both chains tick, and see each other as they are.
-/
import Derived.Test.YtedaknlacigbhaaPk22
import Derived.Test.YtedaknlacigbhaaPk21
namespace Go.Br
open Go Go.Lx Go.Proofs
open Go.Lx renaming rg_move → zA, rg_int → zB, rg_nilCheck → zC, rg_fieldAddr0 → zD, rg_fieldAddr → zE, rg_load → zF, rg_assign → zG, rg_loadAgg → zH, rg_extract → zI, rg_not → zJ, rg_pick → zK, rg_off → zL, rg_offU → zM, rg_store → zN, rg_storeAgg → zO, rg_convInt → zP, rg_done → zQ, ex_seq → zR, rg_start_s → zS, rg_start_d → zT, ex_cond_true → zU, ex_cond_false → zV, rg_alloc → zW, rg_boxAgg → zX, rg_build → zY, rg_lenSl → zZ, rg_lenMap → yA, ex_skip → yB, ex_block → yC, ex_inBlock → yD, ex_exit → yE, rg_caseG → yZ
set_option maxRecDepth 100000

abbrev tS1 : Stp := ⟨1, 0, ⟨0, 1, 2, 0, 3, 9, 0⟩⟩
abbrev tS2 : Stp := ⟨2, 0, ⟨0, 0, 0, 0, 0, 0, 0⟩⟩
abbrev tS3 : Stp := ⟨3, 1, ⟨0, 0, 0, 0, 0, 0, 0⟩⟩
abbrev tS4 : Stp := ⟨4, 1, ⟨0, 0, 0, 0, 0, 0, 0⟩⟩
def tB1 : Bg := (bgDo (bgNew 5) 0 tS1).1
def tB2 : Bg := (bgDo tB1 0 tS2).1
def tB3 : Bg := (bgDo tB2 1 tS3).1
def tB4 : Bg := (bgDo tB3 1 tS4).1
theorem tE1 : (bgDo (bgNew 5) 0 tS1).2 = (1, 0) := by decide +kernel
theorem tE2 : (bgDo tB1 0 tS2).2 = (0, 0) := by decide +kernel
theorem tE3 : (bgDo tB2 1 tS3).2 = (0, 0) := by decide +kernel
theorem tE4 : (bgDo tB3 1 tS4).2 = (0, 0) := by decide +kernel
theorem tH0 : bgBal tB4 0 1 0 = 2 := by decide +kernel
theorem tH1 : bgBal tB4 1 2 0 = 3 := by decide +kernel
theorem tO1 : BgOk 2 tB1 := bgStep_keeps (newOk 5 (by decide)) (by decide) 0 tS1 (by decide) _ (Nat.le_refl _)
theorem tO2 : BgOk 3 tB2 := bgStep_keeps tO1 (by decide) 0 tS2 (by decide) _ (Nat.le_refl _)
theorem tO3 : BgOk 4 tB3 := bgStep_keeps tO2 (by decide) 1 tS3 (by decide) _ (Nat.le_refl _)
theorem tO4 : BgOk 5 tB4 := bgStep_keeps tO3 (by decide) 1 tS4 (by decide) _ (Nat.le_refl _)

theorem Do_at (b : Nat) (S : Bg) (c : Int) (x : Stp) (B : Nat) (Γ : List Ch) (ok : BgOk B S) (hB : B < 100000000) (hx : 0 ≤ x.n ∧ x.n < 18446744073709551616) (S' : Bg) (n e : Int) (h : bgDo S c x = (S', n, e)) :
    CallsX Try.prog 22 #[ptrV b, .int .i64 c, stV x] (.pr (BgAt b S) :: Γ) (fun v Δ => v = .tuple #[.int .u64 n, .int .i64 e] ∧ Ent Δ (.pr (BgAt b S') :: Γ)) := by
  have e := Do_bg b S c x B Γ ok hB hx
  rw [h] at e; exact e

theorem Bal_at (b : Nat) (S : Bg) (c u co : Int) (B : Nat) (Γ : List Ch) (ok : BgOk B S) (hB : B < 100000000) (n : Int) (h : bgBal S c u co = n) :
    CallsX Try.prog 30 #[ptrV b, .int .i64 c, .int .i64 u, .int .i64 co] (.pr (BgAt b S) :: Γ) (fun v Δ => v = .int .u64 n ∧ Ent Δ (.pr (BgAt b S) :: Γ)) := by
  have e := Balance_bg b S c u co B Γ ok hB
  rw [h] at e; exact e

abbrev kvNil : KV := ⟨.slice none 0 0, .slice none 0 0, .slice none 0 0, .slice none 0 0, .slice none 0 0, .slice none 0 0⟩
theorem kw_new {w b : Nat} {S : Bg} {Γ : List Ch} : Ent (kwC w b kvNil :: .pr (BgAt b S) :: Γ) (.pr (KwAt w S [] []) :: Γ) := by
  refine Ent.trans ?_ (EntR.e (kw_fold (b := b) (v := kvNil)))
  refine Ent.cons (Ent.trans slp_none' (Ent.cons (Ent.trans slp_none' (Ent.cons (Ent.trans slp_none' (Ent.cons (Ent.trans slp_none' (Ent.cons (Ent.trans slp_none' (Ent.cons (Ent.trans slp_none' (Ent.cons (Ent.refl _)))))))))))))

set_option maxHeartbeats 4000000 in
theorem begin_ok (Γ : List Ch) :
    CallsX Try.prog 17 #[] Γ (fun v Δ => ∃ w, v = .tuple #[ptrV w, .bool true] ∧ Ent Δ (.pr (KwAt w (bgNew 1000) [] []) :: Γ)) := by
  refine calls_of_body (args := []) Try.func17 rfl Try.ntmps17 fun X cs ret => ?_
  refine ex_seq (rg_start_s ?_)
  repeat (first|refine zG rfl ?_|refine zQ ?_|refine zR ?_|refine zS ?_)
  refine rg_call rfl (New_bg 1000 Γ (by decide)) ?_
  rintro _ D ⟨b1, rfl, hE⟩
  refine ⟨.inl rfl, Rg.ent hE ?_⟩
  repeat (first|refine zA rfl ?_|refine zG rfl ?_|refine zI rfl rfl ?_|refine zQ ?_|refine zR ?_|refine zS ?_)
  refine rg_call rfl (New_bg 5 _ (by decide)) ?_
  rintro _ D ⟨b2, rfl, hE⟩
  refine ⟨.inl rfl, Rg.ent hE ?_⟩
  repeat (first|refine zA rfl ?_|refine zG rfl ?_|refine zI rfl rfl ?_|refine zQ ?_|refine zR ?_|refine zS ?_)
  refine rg_eqPtrNil rfl rfl ?_
  repeat refine zA rfl ?_
  refine rg_eqPtrNil rfl rfl ?_
  repeat (first|refine zA rfl ?_|refine zB rfl rfl rfl ?_|refine zK rfl rfl ?_|refine zQ ?_|refine zR ?_|refine zS ?_|refine zV rfl ?_|refine zY rfl ?_|refine yB ?_)
  refine rg_callE rfl (Do_at b2 (bgNew 5) 0 tS1 1 _ (newOk 5 (by decide)) (by decide) (by decide) tB1 1 0 (Prod.ext rfl tE1)) ?_
  refine ⟨.inl rfl, ?_⟩
  repeat (first|refine zA rfl ?_|refine zG rfl ?_|refine zI rfl rfl ?_|refine zQ ?_|refine zR ?_|refine zS ?_|refine zY rfl ?_)
  refine rg_callE rfl (Do_at b2 tB1 0 tS2 2 _ tO1 (by decide) (by decide) tB2 0 0 (Prod.ext rfl tE2)) ?_
  refine ⟨.inl rfl, ?_⟩
  repeat (first|refine zA rfl ?_|refine zG rfl ?_|refine zI rfl rfl ?_|refine zQ ?_|refine zR ?_|refine zS ?_|refine zY rfl ?_)
  refine rg_callE rfl (Do_at b2 tB2 1 tS3 3 _ tO2 (by decide) (by decide) tB3 0 0 (Prod.ext rfl tE3)) ?_
  refine ⟨.inl rfl, ?_⟩
  repeat (first|refine zA rfl ?_|refine zG rfl ?_|refine zI rfl rfl ?_|refine zQ ?_|refine zR ?_|refine zS ?_|refine zY rfl ?_)
  refine rg_callE rfl (Do_at b2 tB3 1 tS4 4 _ tO3 (by decide) (by decide) tB4 0 0 (Prod.ext rfl tE4)) ?_
  refine ⟨.inl rfl, ?_⟩
  repeat (first|refine zA rfl ?_|refine zB rfl rfl rfl ?_|refine zG rfl ?_|refine zI rfl rfl ?_|refine zK rfl rfl ?_|refine zQ ?_|refine zR ?_|refine zS ?_|refine zX rfl fun bl=>?_|refine zY rfl ?_)
  (refine Rg.front 2 ?_; refine Rg.front 1 ?_; refine Rg.front 2 ?_)
  refine rg_callE rfl (Bal_at b2 tB4 0 1 0 5 _ tO4 (by decide) 2 tH0) ?_
  refine ⟨.inl rfl, ?_⟩
  repeat (first|refine zA rfl ?_|refine zB rfl rfl rfl ?_|refine zK rfl rfl ?_)
  refine rg_callE rfl (Bal_at b2 tB4 1 2 0 5 _ tO4 (by decide) 3 tH1) ?_
  refine ⟨.inl rfl, ?_⟩
  repeat (first|refine zB rfl rfl rfl ?_|refine zG rfl ?_|refine zK rfl rfl ?_|refine zQ ?_)
  exact ex_rete ret Try.func17 rfl (Ent.drop (Ent.refl _)) ⟨_, rfl, kw_new⟩

theorem kOk_new : KOk 1 (bgNew 1000) [] [] := ⟨newOk 1000 (by decide), link_new 1000 (by decide)⟩

end Go.Br

namespace Go.Br
open Go Go.Lx Go.Proofs
open Go.Lx renaming rg_move → zA, rg_int → zB, rg_nilCheck → zC, rg_fieldAddr0 → zD, rg_fieldAddr → zE, rg_load → zF, rg_assign → zG, rg_loadAgg → zH, rg_extract → zI, rg_not → zJ, rg_pick → zK, rg_off → zL, rg_offU → zM, rg_store → zN, rg_storeAgg → zO, rg_convInt → zP, rg_done → zQ, ex_seq → zR, rg_start_s → zS, rg_start_d → zT, ex_cond_true → zU, ex_cond_false → zV, rg_alloc → zW, rg_boxAgg → zX, rg_build → zY, rg_lenSl → zZ, rg_lenMap → yA, ex_skip → yB, ex_block → yC, ex_inBlock → yD, ex_exit → yE, rg_caseG → yZ
set_option maxRecDepth 100000

theorem KOk.mono {B B' : Nat} {S : Bg} {r0 r1 : List Rec} (k : KOk B S r0 r1) (h : B ≤ B') : KOk B' S r0 r1 := ⟨k.ok.mono h, k.link⟩

abbrev PS : Type := Nat × Bg × List Rec × List Rec
abbrev PF (i : PS) : Prop := i.1 ≤ 20000 ∧ KOk (1 + i.1) i.2.1 i.2.2.1 i.2.2.2

set_option maxHeartbeats 4000000 in
theorem play_ok (s : ByteArray) (Γ : List Ch) (hs : s.size ≤ 16384) :
    CallsX Try.prog 16 #[.string s] Γ (fun v Δ => ∃ w S r0 r1, v = .tuple #[ptrV w, .bool true] ∧ KOk 30000 S r0 r1 ∧ Ent Δ (.pr (KwAt w S r0 r1) :: Γ)) := by
  refine calls_of_body (args := [.string s]) Try.func16 rfl Try.ntmps16 fun X cs ret => ?_
  refine ex_seq (rg_start_s ?_)
  repeat (first|refine zG rfl ?_|refine zQ ?_|refine zR ?_|refine zS ?_)
  refine rg_call rfl (begin_ok Γ) ?_
  rintro _ D ⟨w, rfl, hE⟩
  refine ⟨.inl rfl, Rg.ent hE ?_⟩
  repeat (first|refine zA rfl ?_|refine zG rfl ?_|refine zI rfl rfl ?_|refine zJ rfl ?_|refine zQ ?_|refine zR ?_|refine zS ?_|refine zV rfl ?_|refine yB ?_|refine yC ?_)
  refine ex_loop ?_
  refine ex_ind (ι := PS) (fun i => 30000 - i.1) (fun i => [(6, .int .i64 (i.1 : Int)), (4, ptrV w), (0, .string s)]) (fun i => .pr (KwAt w i.2.1 i.2.2.1 i.2.2.2) :: Γ) PF ⟨0, bgNew 1000, [], []⟩ ⟨by decide, kOk_new⟩ ⟨rfl, rfl, rfl, trivial⟩ rfl (fun i hi IH => ?_)
  obtain ⟨i, S, r0, r1⟩ := i
  obtain ⟨hi, k⟩ := hi
  dsimp only at hi k IH ⊢
  repeat (first|refine zA rfl ?_|refine zB rfl rfl rfl ?_|refine zR ?_|refine zS ?_)
  rw [rwrap (x := (i : Int) + 3) (by omega)]
  refine rg_lenStr rfl ?_
  repeat (first|refine zB rfl rfl rfl ?_|refine zQ ?_)
  refine ex_cond_split rfl (fun h1 => ?_) (fun h1 => ?_)
  · have h1 := of_decide_eq_true h1
    repeat (first|refine zA rfl ?_|refine zB rfl rfl rfl ?_|refine zR ?_|refine zS ?_|refine yB ?_|refine yC ?_)
    rw [rwrap (x := (i : Int) + 4) (by omega)]
    refine rg_sliceStr rfl rfl rfl (by omega) ?_
    refine rg_call rfl (move_ok w S r0 r1 _ (1 + i) _ (by rw [ByteArray.size_extract]; omega) k (by omega)) ?_
    rintro _ D ⟨S', r0', r1', rfl, k', hE⟩
    refine ⟨.inl rfl, Rg.ent hE ?_⟩
    repeat (first|refine zA rfl ?_|refine zB rfl rfl rfl ?_|refine zG rfl ?_|refine zJ rfl ?_|refine zQ ?_|refine zS ?_|refine zV rfl ?_|refine yB ?_|refine yD ?_)
    refine ex_inLoop ?_
    rw [rwrap (x := (i : Int) + 4) (by omega)]
    exact Ex.sup (IH ⟨i + 4, S', r0', r1'⟩ ⟨by omega, k'.mono (by omega)⟩ (by show 30000 - (i + 4) < 30000 - i; omega)) ⟨rfl, rfl, rfl, trivial⟩
  · repeat (first|refine zA rfl ?_|refine zG rfl ?_|refine zQ ?_|refine zR ?_|refine zS ?_|refine yE rfl ?_)
    exact ex_rete ret Try.func16 rfl (Ent.refl _) ⟨w, S, r0, r1, rfl, k.mono (by omega), Ent.refl _⟩

theorem once_ok (s : ByteArray) (Γ : List Ch) : CallsX Try.prog 4 #[.string s] Γ (fun v _ => v = .bool true) := by
  refine calls_of_body (args := [.string s]) Try.func4 rfl Try.ntmps4 fun X cs ret => ?_
  repeat (first|refine zA rfl ?_|refine zG rfl ?_|refine zQ ?_|refine zR ?_|refine zS ?_)
  refine rg_lenStr rfl ?_
  repeat (first|refine zB rfl rfl rfl ?_|refine zQ ?_)
  refine ex_cond_split rfl (fun h1 => ?_) (fun h1 => ?_)
  · repeat (first|refine zG rfl ?_|refine zQ ?_|refine zR ?_|refine zS ?_)
    exact ex_retc ret Try.func4 rfl rfl
  · have h1 := of_decide_eq_false h1
    repeat (first|refine zA rfl ?_|refine zR ?_|refine zS ?_|refine yB ?_)
    refine rg_call rfl (play_ok s Γ (by omega)) ?_
    rintro _ D ⟨w, S, r0, r1, rfl, k, hE⟩
    refine ⟨.inl rfl, Rg.ent hE ?_⟩
    repeat (first|refine zA rfl ?_|refine zG rfl ?_|refine zI rfl rfl ?_|refine zQ ?_|refine zR ?_|refine zS ?_)
    exact ex_retc ret Try.func4 rfl rfl

set_option maxHeartbeats 4000000 in
theorem conserved_ok (s : ByteArray) (Γ : List Ch) : CallsX Try.prog 5 #[.string s] Γ (fun v _ => v = .bool true) := by
  refine calls_of_body (args := [.string s]) Try.func5 rfl Try.ntmps5 fun X cs ret => ?_
  repeat (first|refine zA rfl ?_|refine zG rfl ?_|refine zQ ?_|refine zR ?_|refine zS ?_)
  refine rg_lenStr rfl ?_
  repeat (first|refine zB rfl rfl rfl ?_|refine zQ ?_)
  refine ex_cond_split rfl (fun h1 => ?_) (fun h1 => ?_)
  · repeat (first|refine zG rfl ?_|refine zQ ?_|refine zR ?_|refine zS ?_)
    exact ex_retc ret Try.func5 rfl rfl
  have hs := of_decide_eq_false h1
  repeat (first|refine zR ?_|refine zS ?_|refine yB ?_)
  refine rg_call rfl (begin_ok Γ) ?_
  rintro _ D ⟨w, rfl, hE⟩
  refine ⟨.inl rfl, Rg.ent hE ?_⟩
  repeat (first|refine zA rfl ?_|refine zG rfl ?_|refine zI rfl rfl ?_|refine zJ rfl ?_|refine zQ ?_|refine zR ?_|refine zS ?_)
  refine rg_callE rfl (kept_ok w _ _ _ 1 _ kOk_new (by decide)) ?_
  refine ⟨.inl rfl, ?_⟩
  repeat (first|refine zG rfl ?_|refine zJ rfl ?_|refine zK rfl rfl ?_|refine zQ ?_|refine zR ?_|refine zS ?_|refine zV rfl ?_|refine yB ?_|refine yC ?_)
  refine ex_loop ?_
  refine ex_ind (ι := PS) (fun i => 30000 - i.1) (fun i => [(5, .int .i64 (i.1 : Int)), (3, ptrV w), (0, .string s)]) (fun i => .pr (KwAt w i.2.1 i.2.2.1 i.2.2.2) :: Γ) PF ⟨0, bgNew 1000, [], []⟩ ⟨by decide, kOk_new⟩ ⟨rfl, rfl, rfl, trivial⟩ rfl (fun i hi IH => ?_)
  obtain ⟨i, S, r0, r1⟩ := i
  obtain ⟨hi, k⟩ := hi
  dsimp only at hi k IH ⊢
  repeat (first|refine zA rfl ?_|refine zB rfl rfl rfl ?_|refine zR ?_|refine zS ?_)
  rw [rwrap (x := (i : Int) + 3) (by omega)]
  refine rg_lenStr rfl ?_
  repeat (first|refine zB rfl rfl rfl ?_|refine zQ ?_)
  refine ex_cond_split rfl (fun h1 => ?_) (fun h1 => ?_)
  · have h1 := of_decide_eq_true h1
    repeat (first|refine zA rfl ?_|refine zB rfl rfl rfl ?_|refine zR ?_|refine zS ?_|refine yB ?_|refine yC ?_)
    rw [rwrap (x := (i : Int) + 4) (by omega)]
    refine rg_sliceStr rfl rfl rfl (by omega) ?_
    refine rg_call rfl (move_ok w S r0 r1 _ (1 + i) _ (by rw [ByteArray.size_extract]; omega) k (by omega)) ?_
    rintro _ D ⟨S', r0', r1', rfl, k', hE⟩
    refine ⟨.inl rfl, Rg.ent hE ?_⟩
    repeat (first|refine zA rfl ?_|refine zJ rfl ?_)
    refine rg_callE rfl (kept_ok w _ _ _ _ _ k' (by omega)) ?_
    refine ⟨.inl rfl, ?_⟩
    repeat (first|refine zA rfl ?_|refine zB rfl rfl rfl ?_|refine zG rfl ?_|refine zJ rfl ?_|refine zK rfl rfl ?_|refine zQ ?_|refine zS ?_|refine zV rfl ?_|refine yB ?_|refine yD ?_)
    refine ex_inLoop ?_
    rw [rwrap (x := (i : Int) + 4) (by omega)]
    exact Ex.sup (IH ⟨i + 4, S', r0', r1'⟩ ⟨by omega, k'.mono (by omega)⟩ (by show 30000 - (i + 4) < 30000 - i; omega)) ⟨rfl, rfl, rfl, trivial⟩
  · repeat (first|refine zG rfl ?_|refine zQ ?_|refine zR ?_|refine zS ?_|refine yE rfl ?_)
    exact ex_retc ret Try.func5 rfl rfl

end Go.Br

namespace Go.Br
open Go Go.Lx Go.Proofs

abbrev pz : Pk := ⟨0, 0, 0, 0, 0, 0, 0⟩
abbrev tickS : Stp := ⟨2, 0, pz⟩
abbrev updS (h : Int) : Stp := ⟨3, h, pz⟩

def tickC (s : Cn) : Cn := commit { s with hd := { s.hd with time := wu (s.hd.time + 0), height := wu (s.hd.height + 1) } }

theorem tick_step {B : Nat} {s : Cn} (ok : Ok B s) (kn : Hd) (nh : Nat) : step s tickS kn nh = (tickC s, 0, 0) := by
  have := ok.hd.time
  unfold step; rw [if_neg (by decide), if_pos rfl, if_neg (by show ¬ (_ < (0 : Int)); omega)]; rfl

theorem upd_step {s o : Cn} (kn : Hd) (hl : (o.heads.length : Int) = o.hd.height + 1) (hk : (s.known : Int) < o.hd.height) : step s (updS o.hd.height) kn o.heads.length = ({ s with known := o.hd.height.toNat }, 0, 0) := by
  unfold step; rw [if_neg (by decide : ¬ (3 : Int) = 1), if_neg (by decide : ¬ (3 : Int) = 2), if_pos rfl, if_neg (by show ¬ ((_ : Int) ≤ o.hd.height ∨ o.hd.height ≤ _); omega)]

theorem bgDo0 {S : Bg} {x : Stp} {s' : Cn} {n : Int} (h : step S.s0 x (knOf S.s0 S.s1) S.s1.heads.length = (s', n, 0)) : bgDo S 0 x = ({ S with s0 := s', tk := S.tk + 1 }, n, 0) := by
  unfold bgDo bgStep; simp only [if_true, h]
theorem bgDo1 {S : Bg} {x : Stp} {s' : Cn} {n : Int} (h : step S.s1 x (knOf S.s1 S.s0) S.s0.heads.length = (s', n, 0)) : bgDo S 1 x = ({ S with s1 := s', tk := S.tk + 1 }, n, 0) := by
  unfold bgDo bgStep; simp only [if_true, if_neg (show ¬ (1 : Int) = 0 by decide), h]

theorem do_link' {B : Nat} {S S' : Bg} {r0 r1 : List Rec} {n : Int} (k : KOk B S r0 r1) (hB : B < 100000000) (c : Int) (hc : c = 0 ∨ c = 1) (x : Stp) (hx : 0 ≤ x.n ∧ x.n < 18446744073709551616) (ha : 0 ≤ x.p.amount) (he : bgDo S c x = (S', n, 0)) :
    TookOk x n (ownR c r0 r1) (othR c r0 r1) (ownC c S').hd.opn ∧ KOk (B + 1) S' (tkR0 c x r0 r1) (tkR1 c x r0 r1) := by
  have e := do_link k hB c hc x hx ha (by rw [he])
  rw [he] at e; exact e

/-- Each chain knows the other as it is. -/
def Met (S : Bg) : Prop := knOf S.s0 S.s1 = S.s1.hd ∧ knOf S.s1 S.s0 = S.s0.hd

theorem getD_snoc (l : List Hd) (x : Hd) (i : Nat) (h : i = l.length) : (l ++ [x]).getD i default = x := by
  subst h; rw [List.getD_eq_getElem?_getD, List.getElem?_append_right (Nat.le_refl _)]; simp

theorem meet_plain {B : Nat} {S : Bg} {r0 r1 : List Rec} (k : KOk B S r0 r1) (hB : B < 99999990) :
    ∃ S1 S2 S3 S4, bgDo S 0 tickS = (S1, 0, 0) ∧ bgDo S1 1 tickS = (S2, 0, 0) ∧ bgDo S2 0 (updS S2.s1.hd.height) = (S3, 0, 0) ∧ bgDo S3 1 (updS S3.s0.hd.height) = (S4, 0, 0) ∧
      BgOk (B + 1) S1 ∧ BgOk (B + 2) S2 ∧ BgOk (B + 3) S3 ∧ KOk (B + 4) S4 r0 r1 ∧ Met S4 ∧ S4.s0.hd.opn = S.s0.hd.opn ∧ S4.s1.hd.opn = S.s1.hd.opn := by
  have ok0 := k.ok.ok0
  have ok1 := k.ok.ok1
  have e1 := bgDo0 (S := S) (tick_step ok0 (knOf S.s0 S.s1) S.s1.heads.length)
  obtain ⟨S1, hS1⟩ : ∃ S1, S1 = ({ S with s0 := tickC S.s0, tk := S.tk + 1 } : Bg) := ⟨_, rfl⟩
  rw [← hS1] at e1
  have k1 : KOk (B + 1) S1 r0 r1 := (do_link' k (by omega) 0 (.inl rfl) tickS (by decide) (by decide) e1).2
  have e2 := bgDo1 (S := S1) (tick_step k1.ok.ok1 (knOf S1.s1 S1.s0) S1.s0.heads.length)
  obtain ⟨S2, hS2⟩ : ∃ S2, S2 = ({ S1 with s1 := tickC S1.s1, tk := S1.tk + 1 } : Bg) := ⟨_, rfl⟩
  rw [← hS2] at e2
  have k2 : KOk (B + 2) S2 r0 r1 := (do_link' k1 (by omega) 1 (.inr rfl) tickS (by decide) (by decide) e2).2
  have f20 : S2.s0 = tickC S.s0 := by rw [hS2, hS1]
  have f21 : S2.s1 = tickC S.s1 := by rw [hS2, hS1]
  have t0 : (tickC S.s0).hd.height = S.s0.hd.height + 1 := by have := ok0.hd.height; exact wu_id (by omega)
  have t1 : (tickC S.s1).hd.height = S.s1.hd.height + 1 := by have := ok1.hd.height; exact wu_id (by omega)
  have l0 := ok0.len
  have l1 := ok1.len
  have q0 := k.ok.k0
  have q1 := k.ok.k1
  have h2b := k2.ok.ok1.hd.height
  have e3 := bgDo0 (S := S2) (upd_step (s := S2.s0) (o := S2.s1) (knOf S2.s0 S2.s1) k2.ok.ok1.len (by rw [f20, f21, t1]; show (S.s0.known : Int) < _; omega))
  obtain ⟨S3, hS3⟩ : ∃ S3, S3 = ({ S2 with s0 := { S2.s0 with known := S2.s1.hd.height.toNat }, tk := S2.tk + 1 } : Bg) := ⟨_, rfl⟩
  rw [← hS3] at e3
  have k3 : KOk (B + 3) S3 r0 r1 := (do_link' k2 (by omega) 0 (.inl rfl) (updS S2.s1.hd.height) (by show 0 ≤ S2.s1.hd.height ∧ S2.s1.hd.height < _; omega) (Int.le_refl 0) e3).2
  have h3b := k3.ok.ok0.hd.height
  have f30 : S3.s0 = { tickC S.s0 with known := (tickC S.s1).hd.height.toNat } := by rw [hS3, f20, f21]
  have f31 : S3.s1 = tickC S.s1 := by rw [hS3, f21]
  have e4 := bgDo1 (S := S3) (upd_step (s := S3.s1) (o := S3.s0) (knOf S3.s1 S3.s0) k3.ok.ok0.len (by rw [f30, f31]; show (S.s1.known : Int) < (tickC S.s0).hd.height; rw [t0]; omega))
  obtain ⟨S4, hS4⟩ : ∃ S4, S4 = ({ S3 with s1 := { S3.s1 with known := S3.s0.hd.height.toNat }, tk := S3.tk + 1 } : Bg) := ⟨_, rfl⟩
  rw [← hS4] at e4
  have k4 : KOk (B + 4) S4 r0 r1 := (do_link' k3 (by omega) 1 (.inr rfl) (updS S3.s0.hd.height) (by show 0 ≤ S3.s0.hd.height ∧ S3.s0.hd.height < _; omega) (Int.le_refl 0) e4).2
  have f40 : S4.s0 = { tickC S.s0 with known := (tickC S.s1).hd.height.toNat } := by rw [hS4, f30]
  have f41 : S4.s1 = { tickC S.s1 with known := (tickC S.s0).hd.height.toNat } := by rw [hS4, f31, f30]
  refine ⟨S1, S2, S3, S4, e1, e2, e3, e4, k1.ok, k2.ok, k3.ok, k4, ⟨?_, ?_⟩, ?_, ?_⟩
  · rw [f40, f41]
    show (S.s1.heads ++ [(tickC S.s1).hd]).getD (tickC S.s1).hd.height.toNat default = (tickC S.s1).hd
    exact getD_snoc _ _ _ (by omega)
  · rw [f40, f41]
    show (S.s0.heads ++ [(tickC S.s0).hd]).getD (tickC S.s0).hd.height.toNat default = (tickC S.s0).hd
    exact getD_snoc _ _ _ (by omega)
  · rw [f40]; rfl
  · rw [f41]; rfl

theorem KOk.more {B B' : Nat} {S : Bg} {r0 r1 : List Rec} (k : KOk B S r0 r1) (h : B ≤ B') : KOk B' S r0 r1 := ⟨k.ok.mono h, k.link⟩

/-- An end is closed by hand, or because the other is. -/
theorem shut_plain {B : Nat} {S : Bg} {r0 r1 : List Rec} (k : KOk B S r0 r1) (hB : B < 100000000) (c : Int) (hc : c = 0 ∨ c = 1) (kd : Int) (hk : kd = 8 ∨ kd = 9 ∧ (knOf (ownC c S) (othC c S)).opn = false) :
    KOk (B + 1) (bgDo S c ⟨kd, 0, pz⟩).1 r0 r1 ∧ (ownC c (bgDo S c ⟨kd, 0, pz⟩).1).hd.opn = false ∧ (othC c (bgDo S c ⟨kd, 0, pz⟩).1).hd.opn = (othC c S).hd.opn := by
  have key : ∀ (s : Cn) kn nh, (kd = 8 ∨ kd = 9 ∧ kn.opn = false) → (step s ⟨kd, 0, pz⟩ kn nh).1.hd.opn = false := fun s kn nh h => by
    unfold step
    rcases h with rfl | ⟨rfl, h⟩
    · dsimp only
      rw [if_neg (by decide), if_neg (by decide), if_neg (by decide), if_pos (by decide)]
      split
      · assumption
      · rfl
    · dsimp only
      rw [if_neg (by decide), if_neg (by decide), if_neg (by decide), if_neg (by decide), if_pos (by decide)]
      split
      · assumption
      · rw [if_neg (by rw [h]; decide)]
  have et : ∀ a b, tookR ⟨kd, 0, pz⟩ a b = (a, b) := fun a b => by
    unfold tookR; dsimp only; rw [if_neg (by omega), if_neg (by omega), if_neg (by omega)]
  refine ⟨?_, ?_, ?_⟩
  · by_cases he : (bgDo S c ⟨kd, 0, pz⟩).2.2 = 0
    · have e := (do_link k hB c hc ⟨kd, 0, pz⟩ ⟨Int.le_refl 0, (by decide : (0 : Int) < 18446744073709551616)⟩ (Int.le_refl 0) he).2
      simp only [tkR0, tkR1, et] at e
      simpa using e
    · rw [(do_err c ⟨kd, 0, pz⟩ he).1]; exact k.more (Nat.le_succ B)
  · rcases hc with rfl | rfl
    · exact key S.s0 (knOf S.s0 S.s1) S.s1.heads.length hk
    · exact key S.s1 (knOf S.s1 S.s0) S.s0.heads.length hk
  · rcases hc with rfl | rfl
    · rfl
    · rfl

/-- Both ends are closed, and each chain has seen so, and all of the other's answers. -/
structure Uw (S : Bg) : Prop where
  o0 : S.s0.hd.opn = false
  o1 : S.s1.hd.opn = false
  k0 : (knOf S.s0 S.s1).opn = false ∧ (knOf S.s0 S.s1).answers = S.s1.hd.answers
  k1 : (knOf S.s1 S.s0).opn = false ∧ (knOf S.s1 S.s0).answers = S.s0.hd.answers

theorem Met.uw {S : Bg} (m : Met S) (o0 : S.s0.hd.opn = false) (o1 : S.s1.hd.opn = false) : Uw S := ⟨o0, o1, by rw [m.1]; exact ⟨o1, rfl⟩, by rw [m.2]; exact ⟨o0, rfl⟩⟩

theorem step_ans (s : Cn) (x : Stp) (kn : Hd) (nh : Nat) (hk : x.kind = 5 ∨ x.kind = 7) : (step s x kn nh).1.hd.answers = s.hd.answers ∧ (s.hd.opn = false → (step s x kn nh).1.hd.opn = false) := by
  rcases hk with h | h
  · have e : (step s x kn nh).1 = (ack s x.n kn).1 := by unfold step; rw [if_neg (by omega), if_neg (by omega), if_neg (by omega), if_neg (by omega), if_neg (by omega), if_neg (by omega), if_pos h]
    rw [e]; unfold ack
    split
    · exact ⟨rfl, id⟩
    · split
      · exact ⟨rfl, id⟩
      · split
        · exact ⟨rfl, id⟩
        · dsimp only; split <;> exact ⟨rfl, id⟩
  · have e : (step s x kn nh).1 = (back s x.n kn true).1 := by unfold step; rw [if_neg (by omega), if_neg (by omega), if_neg (by omega), if_neg (by omega), if_neg (by omega), if_neg (by omega), if_neg (by omega), if_neg (by omega), if_pos h]
    rw [e]; unfold back
    split
    · exact ⟨rfl, id⟩
    · split
      · exact ⟨rfl, id⟩
      · split
        · exact ⟨rfl, id⟩
        · exact ⟨rfl, fun _ => rfl⟩

theorem findA_get {q : Int} : ∀ {l : List Ans} {a : Ans} {i : Nat}, l[i]? = some a → a.seq = q → ∃ a', findA l q = some a'
  | [], _, _, h, _ => by simp at h
  | x :: l, a, 0, h, e => by simp at h; subst h; exact ⟨x, by simp only [findA]; rw [if_pos e]⟩
  | x :: l, a, i + 1, h, e => by
    simp only [findA]
    split
    · exact ⟨_, rfl⟩
    · exact findA_get (i := i) (by simpa using h) e

/-- A packet that is pending is answered, or comes back. -/
theorem unw_step1 {B : Nat} {s o : Cn} {rs ro : List Rec} (l : Link 3000 s o rs ro) (oko : Ok B o) (hk : s.known < o.heads.length) (h1 : (knOf s o).opn = false) (h2 : (knOf s o).answers = o.hd.answers) {i : Nat} {x : Rec} (hx : rs[i]? = some x) (hp : x.pend = true)
    (hb : ∀ (j : Nat) (y : Rec), j < i → rs[j]? = some y → y.pend = false) (nh : Nat) (kd : Int) (hkd : kd = if x.ans ≠ 0 then 5 else 7) : ∃ s', step s ⟨kd, (i : Int) + 1, pz⟩ (knOf s o) nh = (s', 0, 0) := by
  have okk := (knOf_ok oko hk).1
  generalize knOf s o = kn at *
  obtain ⟨k', hf, hk'⟩ := pend_find (r := rs) (i := 0) (k := 0) hx hp
  have hk0 := hk' hb
  subst hk0
  rw [Nat.zero_add] at hf
  have han := l.ds.an i x hx
  by_cases ha : x.ans = 0
  · rw [if_neg (by simpa using ha)] at hkd
    subst hkd
    have hle : o.hd.answers.length ≤ i := by
      rcases Nat.lt_or_ge i o.hd.answers.length with h | h
      · rw [if_pos h] at han
        exfalso; revert han; rw [ha]; split <;> decide
      · exact h
    have hnr := okk.nrecv
    have e : step s ⟨7, (i : Int) + 1, pz⟩ kn nh = ((back s ((i : Int) + 1) kn true).1, 0, (back s ((i : Int) + 1) kn true).2) := rfl
    have e2 : (back s ((i : Int) + 1) kn true).2 = 0 := by
      unfold back
      rw [l.ds.pk, hf]
      dsimp only
      rw [if_neg (by rw [h1]; decide), if_neg (by rw [hnr, h2]; simp; omega)]
    exact ⟨_, by rw [e, e2]⟩
  · rw [if_pos ha] at hkd
    subst hkd
    have hlt : i < o.hd.answers.length := by
      rcases Nat.lt_or_ge i o.hd.answers.length with h | h
      · exact h
      · rw [if_neg (by omega)] at han; exact absurd han ha
    obtain ⟨a, hA⟩ := findA_get (l := kn.answers) (q := (i : Int) + 1) (a := o.hd.answers[i]) (i := i) (by rw [h2]; exact List.getElem?_eq_getElem hlt) (oko.hd.answers i _ (List.getElem?_eq_getElem hlt))
    have e : step s ⟨5, (i : Int) + 1, pz⟩ kn nh = ((ack s ((i : Int) + 1) kn).1, 0, (ack s ((i : Int) + 1) kn).2) := rfl
    have e2 : (ack s ((i : Int) + 1) kn).2 = 0 := by
      unfold ack
      rw [l.ds.pk, hf]
      dsimp only
      rw [if_neg (by decide), hA]
    exact ⟨_, by rw [e, e2]⟩

theorem unw_step {B : Nat} {S : Bg} {r0 r1 : List Rec} (k : KOk B S r0 r1) (hB : B < 100000000) (u : Uw S) (c : Int) (hc : c = 0 ∨ c = 1) {i : Nat} {x : Rec} (hx : (ownR c r0 r1)[i]? = some x) (hp : x.pend = true)
    (hb : ∀ (j : Nat) (y : Rec), j < i → (ownR c r0 r1)[j]? = some y → y.pend = false) (kd : Int) (hkd : kd = if x.ans ≠ 0 then 5 else 7) :
    ∃ S', bgDo S c ⟨kd, (i : Int) + 1, pz⟩ = (S', 0, 0) ∧ TookOk ⟨kd, (i : Int) + 1, pz⟩ 0 (ownR c r0 r1) (othR c r0 r1) (ownC c S').hd.opn ∧ KOk (B + 1) S' (tkR0 c ⟨kd, (i : Int) + 1, pz⟩ r0 r1) (tkR1 c ⟨kd, (i : Int) + 1, pz⟩ r0 r1) ∧ Uw S' := by
  have hkd2 : kd = 5 ∨ kd = 7 := by rw [hkd]; split; exact .inl rfl; exact .inr rfl
  have hl := k.len
  have hil := lt_some hx
  have hi : i < 100000000 := by
    rcases hc with rfl | rfl
    · have : i < r0.length := hil
      omega
    · have : i < r1.length := hil
      omega
  have hxn : (0 : Int) ≤ (i : Int) + 1 ∧ (i : Int) + 1 < 18446744073709551616 := by omega
  rcases hc with rfl | rfl
  · obtain ⟨s', e⟩ := unw_step1 k.link k.ok.ok1 k.ok.k0 u.k0.1 u.k0.2 hx hp hb S.s1.heads.length kd hkd
    have e2 := bgDo0 (S := S) e
    obtain ⟨t, k'⟩ := do_link' k hB 0 (.inl rfl) ⟨kd, (i : Int) + 1, pz⟩ hxn (Int.le_refl 0) e2
    refine ⟨_, e2, t, k', ?_⟩
    have fr := step_frame S.s0 ⟨kd, (i : Int) + 1, pz⟩ (knOf S.s0 S.s1) S.s1.heads.length
    have an := step_ans S.s0 ⟨kd, (i : Int) + 1, pz⟩ (knOf S.s0 S.s1) S.s1.heads.length hkd2
    have ot := (knOf_other k.ok ⟨kd, (i : Int) + 1, pz⟩ (knOf S.s0 S.s1) S.s1.heads.length).1
    rw [e] at fr an ot
    dsimp only at fr an ot
    rw [if_neg (by omega)] at fr
    refine ⟨an.2 u.o0, u.o1, ?_, ?_⟩
    · have : knOf s' S.s1 = knOf S.s0 S.s1 := by unfold knOf; rw [fr.2.2]
      show (knOf s' S.s1).opn = false ∧ (knOf s' S.s1).answers = S.s1.hd.answers
      rw [this]; exact u.k0
    · show (knOf S.s1 s').opn = false ∧ (knOf S.s1 s').answers = s'.hd.answers
      rw [ot, an.1]; exact u.k1
  · obtain ⟨s', e⟩ := unw_step1 k.link.swap k.ok.ok0 k.ok.k1 u.k1.1 u.k1.2 hx hp hb S.s0.heads.length kd hkd
    have e2 := bgDo1 (S := S) e
    obtain ⟨t, k'⟩ := do_link' k hB 1 (.inr rfl) ⟨kd, (i : Int) + 1, pz⟩ hxn (Int.le_refl 0) e2
    refine ⟨_, e2, t, k', ?_⟩
    have fr := step_frame S.s1 ⟨kd, (i : Int) + 1, pz⟩ (knOf S.s1 S.s0) S.s0.heads.length
    have an := step_ans S.s1 ⟨kd, (i : Int) + 1, pz⟩ (knOf S.s1 S.s0) S.s0.heads.length hkd2
    have ot := (knOf_other k.ok ⟨kd, (i : Int) + 1, pz⟩ (knOf S.s1 S.s0) S.s0.heads.length).2
    rw [e] at fr an ot
    dsimp only at fr an ot
    rw [if_neg (by omega)] at fr
    refine ⟨u.o0, an.2 u.o1, ?_, ?_⟩
    · show (knOf S.s0 s').opn = false ∧ (knOf S.s0 s').answers = s'.hd.answers
      rw [ot, an.1]; exact u.k0
    · have : knOf s' S.s0 = knOf S.s1 S.s0 := by unfold knOf; rw [fr.2.2]
      show (knOf s' S.s0).opn = false ∧ (knOf s' S.s0).answers = S.s0.hd.answers
      rw [this]; exact u.k1

theorem pendL_none : ∀ (r : List Rec) (i : Nat), (∀ (j : Nat) (y : Rec), r[j]? = some y → y.pend = false) → pendL r i = []
  | [], _, _ => rfl
  | x :: r, i, h => by
    simp only [pendL, h 0 x rfl]
    rw [if_neg (by decide)]
    exact pendL_none r (i + 1) fun j y hy => h (j + 1) y (by simpa using hy)

/-- What comes of the records by one step of the way back. -/
theorem tk_unw {c kd : Int} {r0 r1 : List Rec} (i : Nat) (hk : kd = 5 ∨ kd = 7) : tookR ⟨kd, (i : Int) + 1, pz⟩ r0 r1 = (updR unp r0 i, r1) := by
  unfold tookR
  dsimp only
  rw [if_neg (by omega), if_neg (by omega), if_pos (by omega), show ((i : Int) + 1 - 1).toNat = i by omega]

theorem unp_done {r : List Rec} {i : Nat} (hb : ∀ (j : Nat) (y : Rec), j < i → r[j]? = some y → y.pend = false) : ∀ (j : Nat) (y : Rec), j < i + 1 → (updR unp r i)[j]? = some y → y.pend = false := fun j y hj hy => by
  rw [updR_get] at hy
  split at hy
  · cases hr : r[j]? with
    | none => rw [hr] at hy; cases hy
    | some z => rw [hr] at hy; simp at hy; rw [← hy]
  · exact hb j y (by omega) hy

end Go.Br

namespace Go.Br
open Go Go.Lx Go.Proofs
open Go.Lx renaming rg_move → zA, rg_int → zB, rg_nilCheck → zC, rg_fieldAddr0 → zD, rg_fieldAddr → zE, rg_load → zF, rg_assign → zG, rg_loadAgg → zH, rg_extract → zI, rg_not → zJ, rg_pick → zK, rg_off → zL, rg_offU → zM, rg_store → zN, rg_storeAgg → zO, rg_convInt → zP, rg_done → zQ, ex_seq → zR, rg_start_s → zS, rg_start_d → zT, ex_cond_true → zU, ex_cond_false → zV, rg_alloc → zW, rg_boxAgg → zX, rg_build → zY, rg_lenSl → zZ, rg_lenMap → yA, ex_skip → yB, ex_block → yC, ex_inBlock → yD, ex_exit → yE, rg_caseG → yZ
set_option maxRecDepth 100000

set_option maxHeartbeats 4000000 in
theorem wmeet_ok (w : Nat) (S : Bg) (r0 r1 : List Rec) (B : Nat) (Γ : List Ch) (k : KOk B S r0 r1) (hB : B < 99999990) :
    CallsX Try.prog 23 #[ptrV w] (.pr (KwAt w S r0 r1) :: Γ)
      (fun v Δ => ∃ S', v = .bool true ∧ KOk (B + 4) S' r0 r1 ∧ Met S' ∧ S'.s0.hd.opn = S.s0.hd.opn ∧ S'.s1.hd.opn = S.s1.hd.opn ∧ Ent Δ (.pr (KwAt w S' r0 r1) :: Γ)) := by
  obtain ⟨S1, S2, S3, S4, e1, e2, e3, e4, o1, o2, o3, k4, mt, p0, p1⟩ := meet_plain k hB
  have hh2 := o2.ok1.hd.height
  have hh3 := o3.ok0.hd.height
  refine CallsX.open_ kw_open fun z _ => ?_
  obtain ⟨b, v⟩ := z
  dsimp only [kwL]
  refine calls_of_body (args := [ptrV w]) Try.func23 rfl Try.ntmps23 fun X cs ret => ?_
  refine ex_seq (rg_start_s ?_)
  repeat (first|refine zA rfl ?_|refine zG rfl ?_|refine zQ ?_|refine zR ?_|refine zS ?_|refine yC ?_)
  refine ex_loop ?_
  repeat (first|refine zA rfl ?_|refine zB rfl rfl rfl ?_|refine zC rfl ?_|refine zD rfl ?_|refine zF rfl ?_|refine zG rfl ?_|refine zQ ?_|refine zR ?_|refine zS ?_|refine zU rfl ?_|refine zY rfl ?_|refine yB ?_|refine yC ?_)
  (refine Rg.front 6 ?_; refine Rg.front 6 ?_; refine Rg.front 6 ?_; refine Rg.front 6 ?_; refine Rg.front 6 ?_; refine Rg.front 6 ?_; refine Rg.front 6 ?_; refine Rg.front 7 ?_)
  refine rg_callE rfl (Do_at b S 0 tickS B _ k.ok (by omega) (by decide) S1 0 0 e1) ?_
  refine ⟨.inl rfl, ?_⟩
  repeat (first|refine zA rfl ?_|refine zB rfl rfl rfl ?_|refine zG rfl ?_|refine zI rfl rfl ?_|refine zQ ?_|refine zR ?_|refine zS ?_|refine zV rfl ?_|refine yB ?_|refine yD ?_)
  rw [show IntKind.wrap .i64 (0 + 1) = 1 from by decide]
  refine ex_inLoop ?_
  repeat (first|refine zA rfl ?_|refine zB rfl rfl rfl ?_|refine zC rfl ?_|refine zD rfl ?_|refine zF rfl ?_|refine zG rfl ?_|refine zQ ?_|refine zR ?_|refine zS ?_|refine zU rfl ?_|refine zY rfl ?_|refine yB ?_|refine yC ?_)
  refine rg_callE rfl (Do_at b S1 1 tickS (B + 1) _ o1 (by omega) (by decide) S2 0 0 e2) ?_
  refine ⟨.inl rfl, ?_⟩
  repeat (first|refine zA rfl ?_|refine zB rfl rfl rfl ?_|refine zG rfl ?_|refine zI rfl rfl ?_|refine zQ ?_|refine zR ?_|refine zS ?_|refine zV rfl ?_|refine yB ?_|refine yD ?_)
  rw [show IntKind.wrap .i64 (1 + 1) = 2 from by decide]
  refine ex_inLoop ?_
  repeat (first|refine zA rfl ?_|refine zB rfl rfl rfl ?_|refine zQ ?_|refine zR ?_|refine zS ?_|refine zV rfl ?_|refine yC ?_|refine yE rfl ?_)
  refine ex_loop ?_
  repeat (first|refine zA rfl ?_|refine zB rfl rfl rfl ?_|refine zC rfl ?_|refine zD rfl ?_|refine zF rfl ?_|refine zG rfl ?_|refine zQ ?_|refine zR ?_|refine zS ?_|refine zU rfl ?_|refine yB ?_|refine yC ?_)
  rw [show IntKind.wrap .i64 (1 - 0) = 1 from by decide]
  refine rg_call rfl (LookC_bg b S2 1 (B + 2) _ (.inr rfl) o2 (by omega)) ?_
  rintro _ D ⟨la, lc, kn, rfl, hE⟩
  refine ⟨.inl rfl, Rg.ent hE ?_⟩
  unfold lookL
  repeat (first|refine zA rfl ?_|refine zC rfl ?_|refine zD rfl ?_|refine zF rfl ?_|refine zG rfl ?_|refine zI rfl rfl ?_|refine zO rfl rfl ?_|refine zQ ?_|refine zR ?_|refine zT (by decide+kernel) (by decide+kernel) ?_|refine zW fun bl=>?_|refine zY rfl ?_)
  (refine Rg.front 9 ?_; refine Rg.front 9 ?_; refine Rg.front 9 ?_; refine Rg.front 9 ?_; refine Rg.front 9 ?_; refine Rg.front 9 ?_; refine Rg.front 9 ?_; refine Rg.front 8 ?_; refine Rg.front 8 ?_; refine Rg.front 9 ?_)
  refine rg_callE rfl (Do_at b S2 0 (updS S2.s1.hd.height) (B + 2) _ o2 (by omega) (by show 0 ≤ S2.s1.hd.height ∧ S2.s1.hd.height < _; omega) S3 0 0 e3) ?_
  refine ⟨.inr (by (repeat' first | exact trivial | refine ⟨.inr ⟨_, _, _, _, Find.mem, rfl⟩, ?_⟩ | refine ⟨.inr ⟨_, _, _, _, Find.mem, inferInstance⟩, ?_⟩ | refine ⟨.inr ⟨_, Find.mem⟩, ?_⟩ | refine ⟨.inl (by decide +kernel), ?_⟩)), ?_⟩
  repeat (first|refine zA rfl ?_|refine zG rfl ?_|refine zI rfl rfl ?_|refine zQ ?_|refine zR ?_)
  (refine Ex.front 9 ?_; refine Ex.front 9 ?_; refine Ex.front 9 ?_; refine Ex.front 9 ?_; refine Ex.front 9 ?_; refine Ex.front 9 ?_; refine Ex.front 9 ?_; refine Ex.front 7 ?_; refine Ex.front 9 ?_; refine Ex.front 9 ?_)
  refine Ex.ent (Ent.drop (Ent.drop (Ent.refl _))) ?_
  refine rg_start_s ?_
  repeat (first|refine zA rfl ?_|refine zB rfl rfl rfl ?_|refine zK rfl rfl ?_|refine zQ ?_|refine zS ?_|refine zV rfl ?_|refine yB ?_|refine yD ?_)
  rw [show IntKind.wrap .i64 (0 + 1) = 1 from by decide]
  refine ex_inLoop ?_
  repeat (first|refine zA rfl ?_|refine zB rfl rfl rfl ?_|refine zC rfl ?_|refine zD rfl ?_|refine zF rfl ?_|refine zG rfl ?_|refine zQ ?_|refine zR ?_|refine zS ?_|refine zU rfl ?_|refine yB ?_|refine yC ?_)
  rw [show IntKind.wrap .i64 (1 - 1) = 0 from by decide]
  refine rg_call rfl (LookC_bg b S3 0 (B + 3) _ (.inl rfl) o3 (by omega)) ?_
  rintro _ D ⟨la', lc', kn', rfl, hE'⟩
  refine ⟨.inl rfl, Rg.ent hE' ?_⟩
  unfold lookL
  repeat (first|refine zA rfl ?_|refine zC rfl ?_|refine zD rfl ?_|refine zF rfl ?_|refine zG rfl ?_|refine zI rfl rfl ?_|refine zO rfl rfl ?_|refine zQ ?_|refine zR ?_|refine zT (by decide+kernel) (by decide+kernel) ?_|refine zW fun bl=>?_|refine zY rfl ?_)
  (refine Rg.front 9 ?_; refine Rg.front 9 ?_; refine Rg.front 9 ?_; refine Rg.front 9 ?_; refine Rg.front 9 ?_; refine Rg.front 9 ?_; refine Rg.front 9 ?_; refine Rg.front 8 ?_; refine Rg.front 8 ?_; refine Rg.front 9 ?_)
  refine rg_callE rfl (Do_at b S3 1 (updS S3.s0.hd.height) (B + 3) _ o3 (by omega) (by show 0 ≤ S3.s0.hd.height ∧ S3.s0.hd.height < _; omega) S4 0 0 e4) ?_
  refine ⟨.inr (by (repeat' first | exact trivial | refine ⟨.inr ⟨_, _, _, _, Find.mem, rfl⟩, ?_⟩ | refine ⟨.inr ⟨_, _, _, _, Find.mem, inferInstance⟩, ?_⟩ | refine ⟨.inr ⟨_, Find.mem⟩, ?_⟩ | refine ⟨.inl (by decide +kernel), ?_⟩)), ?_⟩
  repeat (first|refine zA rfl ?_|refine zG rfl ?_|refine zI rfl rfl ?_|refine zQ ?_|refine zR ?_)
  (refine Ex.front 9 ?_; refine Ex.front 9 ?_; refine Ex.front 9 ?_; refine Ex.front 9 ?_; refine Ex.front 9 ?_; refine Ex.front 9 ?_; refine Ex.front 9 ?_; refine Ex.front 7 ?_; refine Ex.front 9 ?_; refine Ex.front 9 ?_)
  refine Ex.ent (Ent.drop (Ent.drop (Ent.refl _))) ?_
  refine rg_start_s ?_
  repeat (first|refine zA rfl ?_|refine zB rfl rfl rfl ?_|refine zK rfl rfl ?_|refine zQ ?_|refine zS ?_|refine zV rfl ?_|refine yB ?_|refine yD ?_)
  rw [show IntKind.wrap .i64 (1 + 1) = 2 from by decide]
  refine ex_inLoop ?_
  repeat (first|refine zB rfl rfl rfl ?_|refine zG rfl ?_|refine zQ ?_|refine zR ?_|refine zS ?_|refine zV rfl ?_|refine yE rfl ?_)
  (refine Ex.front 0 ?_; refine Ex.front 7 ?_; refine Ex.front 7 ?_; refine Ex.front 7 ?_; refine Ex.front 7 ?_; refine Ex.front 7 ?_; refine Ex.front 7 ?_; refine Ex.front 7 ?_)
  exact ex_rete ret Try.func23 rfl (EntR.e kw_fold) ⟨S4, rfl, k4, mt, p0, p1, Ent.refl _⟩

end Go.Br
