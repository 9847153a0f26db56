/-
  Lemmas towards the law, proved without conditions of their own: KEEP: what a step of a world does; took as one; comparing totals; KEEP: move: one move from four bytes; KEEP: kept: both totals; on each chain what is locked; KEEP: begin: a new world; a small one is tried; THE LOGIC, FIFTEENTH PART: array literals; pointers and structs that differ. No condition; COMPANY, NINTH PART: an operation's step in whatever world, by what its program runs to; targets of a child; rules that turn the target. No condition; COMPANY, TENTH PART: a child's targets, and the rules for what it does with others: it reads the shared block, adds to it, sends, closes its channel. (Printed by tools/gen_cxa.py.) No condition.
-/
import Derived.Test.YtedaknlacigbhaaPk23
import Derived.Test.YtedaknlacigbhaaPk07
import Derived.Test.YtedaknlacigbhaaPk15
import Derived.Conc.Events
namespace Go.Lx
open Go
section
variable {P : Program} {X : Tgt} {b : Base} {n : Nat} {dr : Bool} {ops : Array Oper} {lo : Nat} {ex : List Nat} {fl : Floats} {E : Env} {rem : List Oper} {k : List Item} {cs : List Frame} {Γ : List Ch}
variable {d : Nat} {T : TypeId} {pos : String} {af : Array Edge} {gd : Option (Nat × Bool)}

theorem wpE_eqArr2 {P : Program} {d t el : Nat} {kk k2 : IntKind} {a0 a1 c0 c1 : Int} (hu : P.underlying t = some (.array 2 el)) [u : Under P el (.int k2)] [s : Scalar P el] [c : CellsOf P el 1] {h : LH} {Q : Bool → LH → Prop} (q : Q (decide (a0 = c0) && decide (a1 = c1)) h) :
    wpE P (Op.equalIn (d + 1 + 1) t (.agg ⟨[.int kk a0, .int kk a1]⟩) (.agg ⟨[.int kk c0, .int kk c1]⟩)) Q h := by
  obtain ⟨ci, e1, e2⟩ := c.size
  rw [Op.equalIn, wpE_bind', wpE_underlying hu]
  simp only [wpE_bind']
  rw [wpE_sizeOf e1, e2]
  simp only [Std.Legacy.Range.forIn_eq_forIn_range', Std.Legacy.Range.size, Nat.sub_zero, Nat.add_one_sub_one, Nat.div_one, List.range', List.forIn_cons, List.forIn_nil, wpE_bind']
  refine wpE_part rfl (wpE_part rfl (wpE_eqInt ?_))
  by_cases h0 : a0 = c0
  · simp only [h0, decide_true, Bool.not_true, Bool.false_eq_true, if_false, wpE_pure, wpE_bind']
    refine wpE_part rfl (wpE_part rfl (wpE_eqInt ?_))
    by_cases h1 : a1 = c1
    · simp only [h1, decide_true, Bool.not_true, Bool.false_eq_true, if_false, wpE_pure]
      simpa [h0, h1] using q
    · simp only [h1, decide_false, Bool.not_false, if_true, wpE_pure]
      simpa [h0, h1] using q
  · simp only [h0, decide_false, Bool.not_false, if_true, wpE_pure]
    simpa [h0] using q

/-- An array of two against another. -/
theorem rg_eqArr2 {t t' : TypeId} {el : TypeId} {x y : Operand} {kk k2 : IntKind} {a0 a1 c0 c1 : Int} [hu : Under P t (.array 2 el)] [u : Under P el (.int k2)] [s : Scalar P el] [c : CellsOf P el 1] (hx : Env.val E x = some (.agg ⟨[.int kk a0, .int kk a1]⟩)) (hy : Env.val E y = some (.agg ⟨[.int kk c0, .int kk c1]⟩)) (hge : P.eqGuardType P.depth t = false)
    (e : Rg P X b n dr ops (lo + 1) ex fl ((d, .bool (decide (a0 = c0) && decide (a1 = c1))) :: E) rem k cs Γ)
    (hdn : d < n := by decide) (hex : NotYet ex lo := trivial) (hg : GuardOK ops ⟨some d, .binOp .eql t x y t', T, pos, af, gd⟩ E := by first | exact trivial | exact ⟨_, rfl, rfl⟩) :
    Rg P X b n dr ops lo ex fl E (⟨some d, .binOp .eql t x y t', T, pos, af, gd⟩ :: rem) k cs Γ :=
  rg_pure rfl hdn hex rfl hg (fun _ ρ h hρ _ => by
    have h1 := hρ x (by simp [Op.operands]) _ hx
    have h2 := hρ y (by simp [Op.operands]) _ hy
    simp only [execOp, wpE_bind', h1, h2]
    refine wpE_eqGuard_agg hge ?_
    show wpE P (do pure (Value.bool (← Op.equalIn (9998 + 1 + 1) t (.agg ⟨[.int kk a0, .int kk a1]⟩) (.agg ⟨[.int kk c0, .int kk c1]⟩)))) _ h
    rw [wpE_bind']
    exact wpE_eqArr2 hu.eq ⟨rfl, rfl⟩) e
end
end Go.Lx

namespace Go.Br
open Go Go.Lx Go.Proofs
set_option maxRecDepth 100000

abbrev ownR (c : Int) (r0 r1 : List Rec) : List Rec := if c = 0 then r0 else r1
abbrev othR (c : Int) (r0 r1 : List Rec) : List Rec := if c = 0 then r1 else r0
abbrev ownC (c : Int) (S : Bg) : Cn := if c = 0 then S.s0 else S.s1
abbrev othC (c : Int) (S : Bg) : Cn := if c = 0 then S.s1 else S.s0
abbrev tkR0 (c : Int) (x : Stp) (r0 r1 : List Rec) : List Rec := if c = 0 then (tookR x r0 r1).1 else (tookR x r1 r0).2
abbrev tkR1 (c : Int) (x : Stp) (r0 r1 : List Rec) : List Rec := if c = 0 then (tookR x r0 r1).2 else (tookR x r1 r0).1

theorem do_link {B : Nat} {S : Bg} {r0 r1 : List Rec} (k : KOk B S r0 r1) (hB : B < 100000000) (c : Int) (hc : c = 0 ∨ c = 1) (x : Stp) (hx : 0 ≤ x.n ∧ x.n < 18446744073709551616) (ha : 0 ≤ x.p.amount) (he : (bgDo S c x).2.2 = 0) :
    TookOk x (bgDo S c x).2.1 (ownR c r0 r1) (othR c r0 r1) (ownC c (bgDo S c x).1).hd.opn ∧ KOk (B + 1) (bgDo S c x).1 (tkR0 c x r0 r1) (tkR1 c x r0 r1) := by
  have kk := bgStep_keeps k.ok hB c x hx.1 (if c = 0 then S.s1.heads.length else S.s0.heads.length) (Nat.le_refl _)
  rcases hc with rfl | rfl
  · obtain ⟨h1, h2⟩ := step_link (by decide) k.link k.ok.ok0 k.ok.ok1 hB k.ok.k0 x hx ha S.s1.heads.length he
    exact ⟨h1, kk, h2⟩
  · obtain ⟨h1, h2⟩ := step_link (by decide) k.link.swap k.ok.ok1 k.ok.ok0 hB k.ok.k1 x hx ha S.s0.heads.length he
    exact ⟨h1, kk, h2.swap⟩

theorem do_err {S : Bg} (c : Int) (x : Stp) (he : (bgDo S c x).2.2 ≠ 0) : (bgDo S c x).1 = S ∧ (bgDo S c x).2.1 = 0 := by
  unfold bgDo bgStep at he ⊢
  by_cases h0 : c = 0
  · simp only [h0, if_true] at he ⊢
    obtain ⟨e1, e2⟩ := step_err he
    rw [e1, e2, if_neg he]; exact ⟨rfl, rfl⟩
  · by_cases h1 : c = 1
    · subst h1
      simp only [if_true, if_neg (show ¬ (1 : Int) = 0 by decide)] at he ⊢
      obtain ⟨e1, e2⟩ := step_err he
      rw [e1, e2, if_neg he]; exact ⟨rfl, rfl⟩
    · simp only [h0, h1, if_false]; exact ⟨trivial, trivial⟩

theorem took_ok (w : Nat) (S : Bg) (r0 r1 : List Rec) (c n : Int) (x : Stp) (B : Nat) (Γ : List Ch) (ok : BgOk B S) (hB : B < 100000000) (hc : c = 0 ∨ c = 1) (hl : r0.length < 100000000 ∧ r1.length < 100000000) (tk : TookOk x n (ownR c r0 r1) (othR c r0 r1) (ownC c S).hd.opn) :
    CallsX Try.prog 24 #[ptrV w, .int .i64 c, stV x, .int .u64 n] (.pr (KwAt w S r0 r1) :: Γ) (fun v Δ => v = .bool true ∧ Ent Δ (.pr (KwAt w S (tkR0 c x r0 r1) (tkR1 c x r0 r1)) :: Γ)) := by
  obtain ⟨t1, t4, t5, t6⟩ := tk
  obtain ⟨kd, xn, p⟩ := x
  dsimp only at t1 t4 t5 t6
  rcases hc with rfl | rfl
  · by_cases k1 : kd = 1
    · subst k1; exact took1_0 w S r0 r1 n xn p Γ hl.1 (t1 rfl)
    by_cases k4 : kd = 4
    · subst k4
      obtain ⟨j, y, h1, h2, h3, h4, h5⟩ := t4 rfl
      subst h2
      have e := took4_0 w S r0 r1 n p Γ j y h1 hl.2 h3 h4 h5
      rw [show updR answ r1 j = tkR1 0 ⟨4, (j : Int) + 1, p⟩ r0 r1 from by show _ = updR answ r1 ((j : Int) + 1 - 1).toNat; rw [show ((j : Int) + 1 - 1).toNat = j by omega]] at e
      exact e
    by_cases k5 : kd = 5
    · subst k5
      obtain ⟨j, y, h1, h2, h3, h4, h5⟩ := t5 rfl
      subst h2
      have e := took5_0 w S r0 r1 n p Γ j y h1 hl.1 h3 h4 h5
      rw [show updR unp r0 j = tkR0 0 ⟨5, (j : Int) + 1, p⟩ r0 r1 from by show _ = updR unp r0 ((j : Int) + 1 - 1).toNat; rw [show ((j : Int) + 1 - 1).toNat = j by omega]] at e
      exact e
    by_cases k6 : kd = 6
    · subst k6
      obtain ⟨j, y, h1, h2, h3, h4, h5⟩ := t6 (.inl rfl)
      subst h2
      have e := took6_0 w S r0 r1 n p B Γ ok hB j y h1 hl.1 h3 h4 h5
      rw [show updR unp r0 j = tkR0 0 ⟨6, (j : Int) + 1, p⟩ r0 r1 from by show _ = updR unp r0 ((j : Int) + 1 - 1).toNat; rw [show ((j : Int) + 1 - 1).toNat = j by omega]] at e
      exact e
    by_cases k7 : kd = 7
    · subst k7
      obtain ⟨j, y, h1, h2, h3, h4, h5⟩ := t6 (.inr rfl)
      subst h2
      have e := took7_0 w S r0 r1 n p B Γ ok hB j y h1 hl.1 h3 h4 h5
      rw [show updR unp r0 j = tkR0 0 ⟨7, (j : Int) + 1, p⟩ r0 r1 from by show _ = updR unp r0 ((j : Int) + 1 - 1).toNat; rw [show ((j : Int) + 1 - 1).toNat = j by omega]] at e
      exact e
    have e := tookX_0 w S r0 r1 n ⟨kd, xn, p⟩ Γ k1 k4 k5 k6 k7
    have et : tookR ⟨kd, xn, p⟩ r0 r1 = (r0, r1) := by unfold tookR; dsimp only; rw [if_neg k1, if_neg k4, if_neg (by omega)]
    rw [show tkR0 0 ⟨kd, xn, p⟩ r0 r1 = r0 from by show (tookR _ _ _).1 = _; rw [et], show tkR1 0 ⟨kd, xn, p⟩ r0 r1 = r1 from by show (tookR _ _ _).2 = _; rw [et]]
    exact e
  · by_cases k1 : kd = 1
    · subst k1; exact took1_1 w S r0 r1 n xn p Γ hl.2 (t1 rfl)
    by_cases k4 : kd = 4
    · subst k4
      obtain ⟨j, y, h1, h2, h3, h4, h5⟩ := t4 rfl
      subst h2
      have e := took4_1 w S r0 r1 n p Γ j y h1 hl.1 h3 h4 h5
      rw [show updR answ r0 j = tkR0 1 ⟨4, (j : Int) + 1, p⟩ r0 r1 from by show _ = updR answ r0 ((j : Int) + 1 - 1).toNat; rw [show ((j : Int) + 1 - 1).toNat = j by omega]] at e
      exact e
    by_cases k5 : kd = 5
    · subst k5
      obtain ⟨j, y, h1, h2, h3, h4, h5⟩ := t5 rfl
      subst h2
      have e := took5_1 w S r0 r1 n p Γ j y h1 hl.2 h3 h4 h5
      rw [show updR unp r1 j = tkR1 1 ⟨5, (j : Int) + 1, p⟩ r0 r1 from by show _ = updR unp r1 ((j : Int) + 1 - 1).toNat; rw [show ((j : Int) + 1 - 1).toNat = j by omega]] at e
      exact e
    by_cases k6 : kd = 6
    · subst k6
      obtain ⟨j, y, h1, h2, h3, h4, h5⟩ := t6 (.inl rfl)
      subst h2
      have e := took6_1 w S r0 r1 n p B Γ ok hB j y h1 hl.2 h3 h4 h5
      rw [show updR unp r1 j = tkR1 1 ⟨6, (j : Int) + 1, p⟩ r0 r1 from by show _ = updR unp r1 ((j : Int) + 1 - 1).toNat; rw [show ((j : Int) + 1 - 1).toNat = j by omega]] at e
      exact e
    by_cases k7 : kd = 7
    · subst k7
      obtain ⟨j, y, h1, h2, h3, h4, h5⟩ := t6 (.inr rfl)
      subst h2
      have e := took7_1 w S r0 r1 n p B Γ ok hB j y h1 hl.2 h3 h4 h5
      rw [show updR unp r1 j = tkR1 1 ⟨7, (j : Int) + 1, p⟩ r0 r1 from by show _ = updR unp r1 ((j : Int) + 1 - 1).toNat; rw [show ((j : Int) + 1 - 1).toNat = j by omega]] at e
      exact e
    have e := tookX_1 w S r0 r1 n ⟨kd, xn, p⟩ Γ k1 k4 k5 k6 k7
    have et : tookR ⟨kd, xn, p⟩ r1 r0 = (r1, r0) := by unfold tookR; dsimp only; rw [if_neg k1, if_neg k4, if_neg (by omega)]
    rw [show tkR0 1 ⟨kd, xn, p⟩ r0 r1 = r0 from by show (tookR _ _ _).2 = _; rw [et], show tkR1 1 ⟨kd, xn, p⟩ r0 r1 = r1 from by show (tookR _ _ _).1 = _; rw [et]]
    exact e

end Go.Br

namespace Go.Br
open Go Go.Lx Go.Proofs
open Go.Lx renaming rg_move → zA, rg_int → zB, rg_nilCheck → zC, rg_fieldAddr0 → zD, rg_fieldAddr → zE, rg_load → zF, rg_assign → zG, rg_loadAgg → zH, rg_extract → zI, rg_not → zJ, rg_pick → zK, rg_off → zL, rg_offU → zM, rg_store → zN, rg_storeAgg → zO, rg_convInt → zP, rg_done → zQ, ex_seq → zR, rg_start_s → zS, rg_start_d → zT, ex_cond_true → zU, ex_cond_false → zV, rg_alloc → zW, rg_boxAgg → zX, rg_build → zY, rg_lenSl → zZ, rg_lenMap → yA, ex_skip → yB, ex_block → yC, ex_inBlock → yD, ex_exit → yE, rg_caseG → yZ
set_option maxRecDepth 100000

theorem wuB (x : Int) : 0 ≤ IntKind.wrap .u64 x ∧ IntKind.wrap .u64 x < 18446744073709551616 := by rw [wU]; omega

theorem LookC_bg (b : Nat) (S : Bg) (c : Int) (B : Nat) (Γ : List Ch) (hc : c = 0 ∨ c = 1) (ok : BgOk B S) (hB : B < 100000000) :
    CallsX Try.prog 25 #[ptrV b, .int .i64 c] (.pr (BgAt b S) :: Γ)
      (fun v Δ => ∃ a cap kn, v = .tuple #[.agg ⟨lookL (ownC c S) kn (.slice a (ownC c S).hd.packets.length cap)⟩, .int .i64 0] ∧
        Ent Δ (.pr (SlV 36 1 (.slice a (ownC c S).hd.packets.length cap) ((ownC c S).hd.packets.map qV) (ownC c S).hd.packets.length) :: .pr (BgAt b S) :: Γ)) := by
  rcases hc with rfl | rfl
  · refine (Look0_bg b S B Γ ok hB).mono ?_
    rintro v Δ ⟨a, cap, e, h⟩; exact ⟨a, cap, _, e, h⟩
  · refine (Look1_bg b S B Γ ok hB).mono ?_
    rintro v Δ ⟨a, cap, e, h⟩; exact ⟨a, cap, _, e, h⟩

theorem ownC_ok {B : Nat} {S : Bg} (ok : BgOk B S) (c : Int) : Ok B (ownC c S) := by
  unfold ownC; split
  · exact ok.ok0
  · exact ok.ok1

theorem ltB {x : Int} {B : Nat} (h : 0 ≤ x ∧ x ≤ (B : Int)) (hB : B < 1000000000) : 0 ≤ x ∧ x < 18446744073709551616 := by omega

theorem nrecvB {B : Nat} {s : Cn} (ok : Ok B s) : 0 ≤ s.hd.nrecv ∧ s.hd.nrecv ≤ ((B + 1 : Nat) : Int) := by
  have e := ok.hd.nrecv; have e2 := ok.hd.recvB; omega

theorem tm2 (a : UInt8) : ∃ c : Int, Int.tmod (IntKind.wrap .i64 (a.toNat : Int)) 2 = c ∧ (c = 0 ∨ c = 1) := by
  have h := a.toNat_lt
  refine ⟨_, rfl, ?_⟩
  rw [wIn (by omega) (by omega), Int.tmod_eq_emod_of_nonneg (by omega)]
  omega

end Go.Br

namespace Go.Br
open Go Go.Lx Go.Proofs
open Go.Lx renaming rg_move → zA, rg_int → zB, rg_nilCheck → zC, rg_fieldAddr0 → zD, rg_fieldAddr → zE, rg_load → zF, rg_assign → zG, rg_loadAgg → zH, rg_extract → zI, rg_not → zJ, rg_pick → zK, rg_off → zL, rg_offU → zM, rg_store → zN, rg_storeAgg → zO, rg_convInt → zP, rg_done → zQ, ex_seq → zR, rg_start_s → zS, rg_start_d → zT, ex_cond_true → zU, ex_cond_false → zV, rg_alloc → zW, rg_boxAgg → zX, rg_build → zY, rg_lenSl → zZ, rg_lenMap → yA, ex_skip → yB, ex_block → yC, ex_inBlock → yD, ex_exit → yE, rg_caseG → yZ
set_option maxRecDepth 100000

end Go.Br

namespace Go.Br
open Go Go.Lx Go.Proofs
open Go.Lx renaming rg_move → zA, rg_int → zB, rg_nilCheck → zC, rg_fieldAddr0 → zD, rg_fieldAddr → zE, rg_load → zF, rg_assign → zG, rg_loadAgg → zH, rg_extract → zI, rg_not → zJ, rg_pick → zK, rg_off → zL, rg_offU → zM, rg_store → zN, rg_storeAgg → zO, rg_convInt → zP, rg_done → zQ, ex_seq → zR, rg_start_s → zS, rg_start_d → zT, ex_cond_true → zU, ex_cond_false → zV, rg_alloc → zW, rg_boxAgg → zX, rg_build → zY, rg_lenSl → zZ, rg_lenMap → yA, ex_skip → yB, ex_block → yC, ex_inBlock → yD, ex_exit → yE, rg_caseG → yZ
set_option maxRecDepth 100000

abbrev tS1 : Stp := ⟨1, 0, ⟨0, 1, 2, 0, 3, 9, 0⟩⟩
abbrev tS2 : Stp := ⟨2, 0, ⟨0, 0, 0, 0, 0, 0, 0⟩⟩
abbrev tS3 : Stp := ⟨3, 1, ⟨0, 0, 0, 0, 0, 0, 0⟩⟩
abbrev tS4 : Stp := ⟨4, 1, ⟨0, 0, 0, 0, 0, 0, 0⟩⟩
def tB1 : Bg := (bgDo (bgNew 5) 0 tS1).1
def tB2 : Bg := (bgDo tB1 0 tS2).1
def tB3 : Bg := (bgDo tB2 1 tS3).1
def tB4 : Bg := (bgDo tB3 1 tS4).1
theorem tE1 : (bgDo (bgNew 5) 0 tS1).2 = (1, 0) := by decide +kernel
theorem tE2 : (bgDo tB1 0 tS2).2 = (0, 0) := by decide +kernel
theorem tE3 : (bgDo tB2 1 tS3).2 = (0, 0) := by decide +kernel
theorem tE4 : (bgDo tB3 1 tS4).2 = (0, 0) := by decide +kernel
theorem tH0 : bgBal tB4 0 1 0 = 2 := by decide +kernel
theorem tH1 : bgBal tB4 1 2 0 = 3 := by decide +kernel
theorem tO1 : BgOk 2 tB1 := bgStep_keeps (newOk 5 (by decide)) (by decide) 0 tS1 (by decide) _ (Nat.le_refl _)
theorem tO2 : BgOk 3 tB2 := bgStep_keeps tO1 (by decide) 0 tS2 (by decide) _ (Nat.le_refl _)
theorem tO3 : BgOk 4 tB3 := bgStep_keeps tO2 (by decide) 1 tS3 (by decide) _ (Nat.le_refl _)
theorem tO4 : BgOk 5 tB4 := bgStep_keeps tO3 (by decide) 1 tS4 (by decide) _ (Nat.le_refl _)

theorem Do_at (b : Nat) (S : Bg) (c : Int) (x : Stp) (B : Nat) (Γ : List Ch) (ok : BgOk B S) (hB : B < 100000000) (hx : 0 ≤ x.n ∧ x.n < 18446744073709551616) (S' : Bg) (n e : Int) (h : bgDo S c x = (S', n, e)) :
    CallsX Try.prog 22 #[ptrV b, .int .i64 c, stV x] (.pr (BgAt b S) :: Γ) (fun v Δ => v = .tuple #[.int .u64 n, .int .i64 e] ∧ Ent Δ (.pr (BgAt b S') :: Γ)) := by
  have e := Do_bg b S c x B Γ ok hB hx
  rw [h] at e; exact e

theorem Bal_at (b : Nat) (S : Bg) (c u co : Int) (B : Nat) (Γ : List Ch) (ok : BgOk B S) (hB : B < 100000000) (n : Int) (h : bgBal S c u co = n) :
    CallsX Try.prog 30 #[ptrV b, .int .i64 c, .int .i64 u, .int .i64 co] (.pr (BgAt b S) :: Γ) (fun v Δ => v = .int .u64 n ∧ Ent Δ (.pr (BgAt b S) :: Γ)) := by
  have e := Balance_bg b S c u co B Γ ok hB
  rw [h] at e; exact e

abbrev kvNil : KV := ⟨.slice none 0 0, .slice none 0 0, .slice none 0 0, .slice none 0 0, .slice none 0 0, .slice none 0 0⟩
theorem kw_new {w b : Nat} {S : Bg} {Γ : List Ch} : Ent (kwC w b kvNil :: .pr (BgAt b S) :: Γ) (.pr (KwAt w S [] []) :: Γ) := by
  refine Ent.trans ?_ (EntR.e (kw_fold (b := b) (v := kvNil)))
  refine Ent.cons (Ent.trans slp_none' (Ent.cons (Ent.trans slp_none' (Ent.cons (Ent.trans slp_none' (Ent.cons (Ent.trans slp_none' (Ent.cons (Ent.trans slp_none' (Ent.cons (Ent.trans slp_none' (Ent.cons (Ent.refl _)))))))))))))

set_option maxHeartbeats 4000000 in
theorem begin_ok (Γ : List Ch) :
    CallsX Try.prog 17 #[] Γ (fun v Δ => ∃ w, v = .tuple #[ptrV w, .bool true] ∧ Ent Δ (.pr (KwAt w (bgNew 1000) [] []) :: Γ)) := by
  refine calls_of_body (args := []) Try.func17 rfl Try.ntmps17 fun X cs ret => ?_
  refine ex_seq (rg_start_s ?_)
  repeat (first|refine zG rfl ?_|refine zQ ?_|refine zR ?_|refine zS ?_)
  refine rg_call rfl (New_bg 1000 Γ (by decide)) ?_
  rintro _ D ⟨b1, rfl, hE⟩
  refine ⟨.inl rfl, Rg.ent hE ?_⟩
  repeat (first|refine zA rfl ?_|refine zG rfl ?_|refine zI rfl rfl ?_|refine zQ ?_|refine zR ?_|refine zS ?_)
  refine rg_call rfl (New_bg 5 _ (by decide)) ?_
  rintro _ D ⟨b2, rfl, hE⟩
  refine ⟨.inl rfl, Rg.ent hE ?_⟩
  repeat (first|refine zA rfl ?_|refine zG rfl ?_|refine zI rfl rfl ?_|refine zQ ?_|refine zR ?_|refine zS ?_)
  refine rg_eqPtrNil rfl rfl ?_
  repeat refine zA rfl ?_
  refine rg_eqPtrNil rfl rfl ?_
  repeat (first|refine zA rfl ?_|refine zB rfl rfl rfl ?_|refine zK rfl rfl ?_|refine zQ ?_|refine zR ?_|refine zS ?_|refine zV rfl ?_|refine zY rfl ?_|refine yB ?_)
  refine rg_callE rfl (Do_at b2 (bgNew 5) 0 tS1 1 _ (newOk 5 (by decide)) (by decide) (by decide) tB1 1 0 (Prod.ext rfl tE1)) ?_
  refine ⟨.inl rfl, ?_⟩
  repeat (first|refine zA rfl ?_|refine zG rfl ?_|refine zI rfl rfl ?_|refine zQ ?_|refine zR ?_|refine zS ?_|refine zY rfl ?_)
  refine rg_callE rfl (Do_at b2 tB1 0 tS2 2 _ tO1 (by decide) (by decide) tB2 0 0 (Prod.ext rfl tE2)) ?_
  refine ⟨.inl rfl, ?_⟩
  repeat (first|refine zA rfl ?_|refine zG rfl ?_|refine zI rfl rfl ?_|refine zQ ?_|refine zR ?_|refine zS ?_|refine zY rfl ?_)
  refine rg_callE rfl (Do_at b2 tB2 1 tS3 3 _ tO2 (by decide) (by decide) tB3 0 0 (Prod.ext rfl tE3)) ?_
  refine ⟨.inl rfl, ?_⟩
  repeat (first|refine zA rfl ?_|refine zG rfl ?_|refine zI rfl rfl ?_|refine zQ ?_|refine zR ?_|refine zS ?_|refine zY rfl ?_)
  refine rg_callE rfl (Do_at b2 tB3 1 tS4 4 _ tO3 (by decide) (by decide) tB4 0 0 (Prod.ext rfl tE4)) ?_
  refine ⟨.inl rfl, ?_⟩
  repeat (first|refine zA rfl ?_|refine zB rfl rfl rfl ?_|refine zG rfl ?_|refine zI rfl rfl ?_|refine zK rfl rfl ?_|refine zQ ?_|refine zR ?_|refine zS ?_|refine zX rfl fun bl=>?_|refine zY rfl ?_)
  (refine Rg.front 2 ?_; refine Rg.front 1 ?_; refine Rg.front 2 ?_)
  refine rg_callE rfl (Bal_at b2 tB4 0 1 0 5 _ tO4 (by decide) 2 tH0) ?_
  refine ⟨.inl rfl, ?_⟩
  repeat (first|refine zA rfl ?_|refine zB rfl rfl rfl ?_|refine zK rfl rfl ?_)
  refine rg_callE rfl (Bal_at b2 tB4 1 2 0 5 _ tO4 (by decide) 3 tH1) ?_
  refine ⟨.inl rfl, ?_⟩
  repeat (first|refine zB rfl rfl rfl ?_|refine zG rfl ?_|refine zK rfl rfl ?_|refine zQ ?_)
  exact ex_rete ret Try.func17 rfl (Ent.drop (Ent.refl _)) ⟨_, rfl, kw_new⟩

theorem kOk_new : KOk 1 (bgNew 1000) [] [] := ⟨newOk 1000 (by decide), link_new 1000 (by decide)⟩

end Go.Br

namespace Go.Lx
open Go

section
variable {P : Program} {X : Tgt} {b : Base} {n : Nat} {dr : Bool} {ops : Array Oper} {lo : Nat} {ex : List Nat} {fl : Floats} {E : Env} {rem : List Oper} {k : List Item} {cs : List Frame} {Γ : List Ch}
variable {d : Nat} {T : TypeId} {pos : String} {af : Array Edge} {gd : Option (Nat × Bool)}

theorem rg_buildArr {t el m sz : Nat} {z l : List Value} {parts : List (Nat × Operand)} {vs : List Value} [u : Under P t (.array m el)] [c : CellsOf P el sz] [zz : ZeroOf P t (.agg ⟨z⟩)] (hp : partsV E parts = some (enumV 0 vs)) (hz : z.length = vs.length * sz)
    (hc : vs.all (fun v => v.cells.size == sz) = true) (hl : flatC vs = l) (e : Rg P X b n dr ops (lo + 1) ex fl ((d, .agg ⟨l⟩) :: E) rem k cs Γ)
    (hdn : d < n := by decide) (hex : NotYet ex lo := trivial) (hg : GuardOK ops ⟨some d, .build t ⟨parts⟩, T, pos, af, gd⟩ E := by first | exact trivial | exact ⟨_, rfl, rfl⟩) :
    Rg P X b n dr ops lo ex fl E (⟨some d, .build t ⟨parts⟩, T, pos, af, gd⟩ :: rem) k cs Γ :=
  rg_pure rfl hdn hex rfl hg (fun _ ρ h hρ _ => by
    have hpm := partsV_map parts _ (fun x hx => hρ x (by simpa [Op.operands] using hx)) hp
    obtain ⟨i, i1, i2⟩ := zz.eq
    obtain ⟨ci, c1, c2⟩ := c.size
    simp only [execOp, wpE_bind', Instr.build, wpE_zeroValue i1 i2, wpE_underlying u.eq, wpE_sizeOf c1, c2]
    have hcs : ∀ v ∈ vs, v.cells.toList.length = sz := fun v hv => by have := List.all_eq_true.1 hc v hv; simpa using this
    have hfs := fill_seq (m := sz) vs 0 [] z (by simp) hz hcs
    have hparts : (Array.map (fun (x : Nat × Operand) => (x.1, ρ x.2)) ⟨parts⟩).toList = enumV 0 vs := by simpa using hpm
    have hzc : (Value.agg ⟨z⟩).cells = ⟨[] ++ z⟩ := rfl
    rw [hparts, hzc, hfs]
    simp only [wpE_pure, List.nil_append, hl, nxv, and_self]) e

/-- A struct against a struct. -/
theorem rg_neqAgg {t t' : TypeId} {x y : Operand} {us vs : List Value} {fs : List Field} {rs : List Bool} (hx : Env.val E x = some (.agg ⟨us⟩)) (hy : Env.val E y = some (.agg ⟨vs⟩)) (hu : P.underlying t = some (.struct ⟨fs⟩)) (hs : P.stoodInHeld t = false) (hge : P.eqGuardType P.depth t = false)
    (hf : EqFs P 9999 ⟨us⟩ ⟨vs⟩ fs rs) (e : Rg P X b n dr ops (lo + 1) ex fl ((d, .bool (!rs.all id)) :: E) rem k cs Γ)
    (hdn : d < n := by decide) (hex : NotYet ex lo := trivial) (hg : GuardOK ops ⟨some d, .binOp .neq t x y t', T, pos, af, gd⟩ E := by first | exact trivial | exact ⟨_, rfl, rfl⟩) :
    Rg P X b n dr ops lo ex fl E (⟨some d, .binOp .neq t x y t', T, pos, af, gd⟩ :: rem) k cs Γ :=
  rg_pure rfl hdn hex rfl hg (fun _ ρ h hρ _ => by
    have h1 := hρ x (by simp [Op.operands]) _ hx
    have h2 := hρ y (by simp [Op.operands]) _ hy
    simp only [execOp, wpE_bind', h1, h2]
    refine wpE_eqGuard_agg hge ?_
    show wpE P (do pure (Value.bool (!(← Op.equalIn (9999 + 1) t (.agg ⟨us⟩) (.agg ⟨vs⟩))))) _ h
    rw [wpE_bind']
    exact wpE_eqStruct hu hs hf ⟨rfl, rfl⟩) e
end
end Go.Lx

namespace Go.Lx
open Go Go.Conc

/-! ### what a piece of program runs to, with just what it lists -/

def RunsTo {α : Type} (P : Program) (e : Sem α) (w : World) (a : α) (w' : World) (ev : List Event) : Prop := ∀ es, e.runT P w es = (.ok a w', es ++ ev.toArray)

section
variable {P : Program} {α β : Type} {w w' w'' : World}

theorem runs_pure (a : α) : RunsTo P (pure a : Sem α) w a w [] := fun es => by
  show (Result.ok a w, es) = _
  simp
theorem runs_bind {e : Sem α} {f : α → Sem β} {a : α} {b : β} {l1 l2 : List Event} (h1 : RunsTo P e w a w' l1) (h2 : RunsTo P (f a) w' b w'' l2) : RunsTo P (e >>= f) w b w'' (l1 ++ l2) := fun es => by
  show (e.bind f).runT P w es = _
  rw [Sem.runT_bind', h1 es]
  simp only []
  rw [h2]
  simp
theorem runs_bind0 {e : Sem α} {f : α → Sem β} {a : α} {b : β} {l2 : List Event} (h1 : RunsTo P e w a w' []) (h2 : RunsTo P (f a) w' b w'' l2) : RunsTo P (e >>= f) w b w'' l2 := runs_bind h1 h2
theorem runs_program {f : Program → Sem β} {b : β} {l : List Event} (h : RunsTo P (f P) w b w' l) : RunsTo P (program >>= f) w b w' l := fun es => by
  show (Sem.bind program f).runT P w es = _
  exact h es
theorem runs_load {m : Mode} {a : Addr} {v : Value} (h : w.cell? a = some v) : RunsTo P (load a m) w v w [⟨.cell a, false, m == .atomic⟩] := fun es => by
  show (Sem.load m a _).runT P w es = _
  rw [Sem.runT, h]
  simp [Sem.runT]
theorem runs_mark {m : Mark} : RunsTo P (mark m) w () w [⟨.mark m, false, true⟩] := fun es => by
  show (Sem.mark m _).runT P w es = _
  rw [Sem.runT]
  simp [Sem.runT]
theorem runs_store {m : Mode} {a : Addr} {v v0 : Value} (h : w.cell? a = some v0) (ho : oneC v = true) (hf : w.frozen? a = false) : RunsTo P (store a v m) w () (w.setCell a v) [⟨.cell a, true, m == .atomic⟩] := fun es => by
  show (Sem.store m a v _).runT P w es = _
  cases v <;> first | (simp [oneC] at ho; done) | (simp [Sem.runT, h, hf])
theorem runs_getObj {r : Nat} {o : Obj} (h : w.heap[r]? = some o) (hc : isCells o = false) : RunsTo P (getObj r) w o w [⟨.obj r, false, o.isChan⟩] := fun es => by
  show (Sem.getObj r _).runT P w es = _
  rw [Sem.runT, h]
  cases o <;> first | (simp [isCells] at hc; done) | (simp [Sem.runT])
theorem runs_setObj {r : Nat} {o o0 : Obj} (h : w.heap[r]? = some o0) (hc : isCells o0 = false) : RunsTo P (setObj r o) w () { w with heap := w.heap.setIfInBounds r o } [⟨.obj r, true, o.isChan⟩] := fun es => by
  show (Sem.setObj r o _).runT P w es = _
  rw [Sem.runT, h]
  cases o0 <;> first | (simp [isCells] at hc; done) | (simp [Sem.runT])

theorem runs_underlying {t : TypeId} {d : TypeDesc} (e : P.underlying t = some d) : RunsTo P (underlying t) w d w [] := by
  unfold underlying
  refine runs_program ?_
  rw [e]
  exact runs_pure d
theorem runs_isAgg_false {t : TypeId} [s : Scalar P t] : RunsTo P (isAgg t) w false w [] := by
  obtain ⟨d, h1, h2⟩ := s.agg
  unfold isAgg
  refine runs_bind0 (runs_underlying h1) ?_
  cases d <;> first | exact runs_pure false | exact h2.elim
theorem runs_loadVar {t : TypeId} {a : Addr} {v : Value} [s : Scalar P t] (h : w.cell? a = some v) : RunsTo P (loadVar t a) w v w [⟨.cell a, false, false⟩] := by
  unfold loadVar
  exact runs_bind0 runs_isAgg_false (runs_load (m := .plain) h)
end

/-! ### the step -/

section
variable {P : Program} {m : Bool} {b : Base} {R : Array Value} {ops : Array Oper} {i : Nat} {l : List Nat} {k : List Item} {cs : List Frame} {o : Oper} {w w' : World}

theorem step_val {nx : Next} {v : Value} {ev : List Event} (ho : ops[i]? = some o) (hw : Region.wanted o (yielded ops R) = true) (hd : noDefer o.op = true) (r : RunsTo P (execOp (evT R) o) w nx w' ev) (hv : nxv nx = some v) :
    ∃ es, stepG P m (gor (b.fr R (.inRegion ops (i :: l) :: k)) cs) w = .go (gor (b.fr (putT R o.dst v) (.inRegion ops l :: k)) cs) w' es ∧ ∀ x ∈ es, x ∈ ev := by
  have r0 := r #[]
  have hf := finish_fr b R ops i l k v
  rw [ho] at hf
  simp only [Option.bind_some] at hf
  rw [stepG_oper ho hw hd]
  refine ⟨seen P b.fn (if b.kind == .early then #[] else (#[] ++ ev.toArray)), ?_, fun x hx => ?_⟩
  · cases nx with
    | value u =>
      cases hv
      simp only [stepG.apply, if_true, r0]
      rw [← hf]
      simp [GStep.after, Base.fr, gor]
    | skip =>
      cases hv
      simp only [stepG.apply, if_true, r0]
      rw [← hf]
      simp [GStep.after, Base.fr, gor]
    | _ => cases hv
  · have := mem_seen hx
    split at this
    · simp at this
    · simpa using this

theorem step_val_ex {nx : Next} {v : Value} {ev : List Event} (ho : ops[i]? = some o) (hw : Region.wanted o (yielded ops R) = true) (hd : noDefer o.op = true) (r : RunsTo P (execOp (evT R) o) w nx w' ev) (hv : nxv nx = some v) :
    stepG P m (gor (b.fr R (.inRegion ops (i :: l) :: k)) cs) w = .go (gor (b.fr (putT R o.dst v) (.inRegion ops l :: k)) cs) w' (seen P b.fn (if b.kind == .early then #[] else ev.toArray)) := by
  have r0 := r #[]
  have hf := finish_fr b R ops i l k v
  rw [ho] at hf
  simp only [Option.bind_some] at hf
  rw [stepG_oper ho hw hd]
  cases nx with
  | value u =>
    cases hv
    simp only [stepG.apply, if_true, r0]
    rw [← hf]
    simp [GStep.after, Base.fr, gor]
  | skip =>
    cases hv
    simp only [stepG.apply, if_true, r0]
    rw [← hf]
    simp [GStep.after, Base.fr, gor]
  | _ => cases hv

theorem step_com {cases : Array CommCase} {bl : Bool} {sh : CommShape} {ev : List Event} (ho : ops[i]? = some o) (hw : Region.wanted o (yielded ops R) = true) (hd : noDefer o.op = true) (r : RunsTo P (execOp (evT R) o) w (.comm cases bl sh) w' ev) :
    ∃ es, stepG P m (gor (b.fr R (.inRegion ops (i :: l) :: k)) cs) w = .comm (core (gor (b.fr R (.inRegion ops (i :: l) :: k)) cs)) cases bl sh w' es ∧ ∀ x ∈ es, x ∈ ev := by
  have r0 := r #[]
  rw [stepG_oper ho hw hd]
  refine ⟨seen P b.fn (if b.kind == .early then #[] else (#[] ++ ev.toArray)), ?_, fun x hx => ?_⟩
  · simp only [stepG.apply, if_true, r0]
    simp [GStep.after, Base.fr, gor, core]
  · have := mem_seen hx
    split at this
    · simp at this
    · simpa using this

/-- The frame that a go statement's goroutine begins with. -/
def gxFrame (P : Program) (ds : List Deferred) : Frame := { (default : Frame) with fn := P.funcs.size, defers := ds, mode := .panicking [goexitEntry] }

theorem step_spn {d : Deferred} {ev : List Event} (ho : ops[i]? = some o) (hw : Region.wanted o (yielded ops R) = true) (hd : noDefer o.op = true) (r : RunsTo P (execOp (evT R) o) w (.spawn d) w' ev) (hn : (d.target matches .nil) = false) :
    ∃ es, stepG P m (gor (b.fr R (.inRegion ops (i :: l) :: k)) cs) w = .spawn (gor (b.fr (putT R o.dst undef) (.inRegion ops l :: k)) cs) (gor (gxFrame P [d]) []) w' es ∧ ∀ x ∈ es, x ∈ ev := by
  have r0 := r #[]
  have hf := finish_fr b R ops i l k undef
  rw [ho] at hf
  simp only [Option.bind_some] at hf
  rw [stepG_oper ho hw hd]
  refine ⟨seen P b.fn (if b.kind == .early then #[] else (#[] ++ ev.toArray)), ?_, fun x hx => ?_⟩
  · simp only [stepG.apply, if_true, r0]
    rw [← hf]
    cases ht : d.target with
    | nil => rw [ht] at hn; cases hn
    | _ => simp [GStep.after, Base.fr, gor, gxFrame]
  · have := mem_seen hx
    split at this
    · simp at this
    · simpa using this
end

end Go.Lx

namespace Go.Lx
open Go Go.Conc

theorem EvOK.le {h h' : LH} {x : Event} (l : h.Le h') (k : EvOK h x) : EvOK h' x := by
  unfold EvOK at *
  split
  · rename_i a hl; rw [hl] at k; obtain ⟨p, o, h1, h2⟩ := k; obtain ⟨p', h3, h4⟩ := l _ _ _ h1; exact ⟨p', o, h3, fun e => h4 (h2 e)⟩
  · rename_i a hl; rw [hl] at k; obtain ⟨p, o, h1, h2⟩ := k; obtain ⟨p', h3, h4⟩ := l _ _ _ h1; exact ⟨p', o, h3, fun e => h4 (h2 e)⟩
  · rename_i m hl; rw [hl] at k; exact k
  · rename_i q h1 h2 h3; revert k; split
    · rename_i a hl; exact fun _ => absurd hl (h1 _)
    · rename_i a hl; exact fun _ => absurd hl (h2 _)
    · rename_i a hl; exact fun _ => absurd hl (h3 _)
    · exact id

theorem StepOK.mono {P : Program} {m : Bool} {g : Goroutine} {h0 h : LH} {K : Goroutine → LH → Prop} (hk : StepOK P m g h0 K) (le : h0.Le h) : StepOK P m g h (fun g' h' => ∃ h0', K g' h0' ∧ h0'.Le h') := by
    intro w hw
    obtain ⟨fr, cs, w', h0', es, e1, u, ev, k⟩ := hk w (le.sub hw)
    let h' : LH := fun b => match h0' b with
      | some (_, o') => some ((match h b with | some (p, _) => p | none => true), o')
      | none => h b
    have hle : h0'.Le h' := by
      intro b p o e
      refine ⟨(match h b with | some (p, _) => p | none => true), by simp only [h', e], fun hp => ?_⟩
      subst hp
      cases e0 : h0 b with
      | some po =>
        obtain ⟨p0, o0⟩ := po
        obtain ⟨o1, e4, _⟩ := u.perm _ _ _ e0
        rw [e] at e4; cases e4
        obtain ⟨p', e5, q5⟩ := le _ _ _ e0
        rw [e5]; exact q5 rfl
      | none =>
        cases e6 : h b with
        | none => rfl
        | some po =>
          obtain ⟨p1, o1⟩ := po
          have := lt_of_heap (hw _ _ _ e6)
          have := (u.new _ _ _ e0 e).1
          omega
    refine ⟨fr, cs, w', h', es, e1, ⟨?_, u.size, ?_, ?_, ?_, u.os, u.output, u.tape, u.drawn⟩, ?_, ⟨h0', k, hle⟩⟩
    · intro b p o e
      simp only [h'] at e
      cases e7 : h0' b with
      | some po => obtain ⟨p0, o0⟩ := po; rw [e7] at e; cases e; exact u.sub _ _ _ e7
      | none =>
        rw [e7] at e
        have e8 : h0 b = none := by
          cases e9 : h0 b with
          | none => rfl
          | some po => obtain ⟨p0, o0⟩ := po; obtain ⟨o1, e4, _⟩ := u.perm _ _ _ e9; rw [e7] at e4; cases e4
        rw [u.keep b (lt_of_heap (hw _ _ _ e)) e8]; exact hw _ _ _ e
    · intro b p o e
      cases e7 : h0' b with
      | none => exact ⟨o, by simp only [h', e7]; exact e, fun _ => rfl⟩
      | some po =>
        obtain ⟨p0, o0⟩ := po
        refine ⟨o0, by simp only [h', e7, e], fun hp => ?_⟩
        subst hp
        cases e9 : h0 b with
        | none => have := lt_of_heap (hw _ _ _ e); have := (u.new _ _ _ e9 e7).1; omega
        | some po =>
          obtain ⟨p2, o2⟩ := po
          obtain ⟨o1, e4, q4⟩ := u.perm _ _ _ e9
          rw [e7] at e4; cases e4
          obtain ⟨p', e5, q5⟩ := le _ _ _ e9
          rw [e] at e5; cases e5
          cases p0 with
          | true => cases q5 rfl
          | false => exact q4 rfl
    · intro b p o e e'
      have e8 : h0 b = none := by
        cases e9 : h0 b with
        | none => rfl
        | some po => obtain ⟨p0, o0⟩ := po; obtain ⟨p', e5, _⟩ := le _ _ _ e9; rw [e] at e5; cases e5
      simp only [h', e] at e'
      cases e7 : h0' b with
      | none => rw [e7] at e'; cases e'
      | some po => obtain ⟨p0, o0⟩ := po; rw [e7] at e'; cases e'; exact ⟨(u.new _ _ _ e8 e7).1, rfl⟩
    · intro b hb e
      refine u.keep b hb ?_
      cases e9 : h0 b with
      | none => rfl
      | some po => obtain ⟨p0, o0⟩ := po; obtain ⟨p', e5, _⟩ := le _ _ _ e9; rw [e] at e5; cases e5
    · intro x hx
      have := ev x hx
      unfold EvOK at *
      split
      · rename_i a hl; rw [hl] at this; obtain ⟨p, o, h1, h2⟩ := this; obtain ⟨p', h3, h4⟩ := hle _ _ _ h1; exact ⟨p', o, h3, fun e => h4 (h2 e)⟩
      · rename_i a hl; rw [hl] at this; obtain ⟨p, o, h1, h2⟩ := this; obtain ⟨p', h3, h4⟩ := hle _ _ _ h1; exact ⟨p', o, h3, fun e => h4 (h2 e)⟩
      · rename_i m hl; rw [hl] at this; exact this
      · rename_i l h1 h2 h3; revert this; split
        · rename_i a hl; exact fun _ => absurd hl (h1 _)
        · rename_i a hl; exact fun _ => absurd hl (h2 _)
        · rename_i a hl; exact fun _ => absurd hl (h3 _)
        · exact id

/-- A heap that holds Γ, and perhaps more. -/
def finOf (Γ : List Ch) : LH → Prop := fun h => ∃ h0, Star Γ h0 ∧ h0.Le h
theorem finOf.le {Γ : List Ch} {h h' : LH} (f : finOf Γ h) (l : h.Le h') : finOf Γ h' := let ⟨h0, s, l0⟩ := f; ⟨h0, s, l0.trans l⟩

def KX.le : KX → KX → Prop
  | .run s, .run s' => s.vs = s'.vs ∧ s.k = s'.k ∧ s.g = s'.g ∧ s.h.Le s'.h
  | .park s g v z, .park s' g' v' z' => s.vs = s'.vs ∧ s.k = s'.k ∧ s.g = s'.g ∧ s.h.Le s'.h ∧ g = g' ∧ v = v' ∧ z = z'
  | .shut h, .shut h' => h.Le h'
  | .gone, .gone => True
  | .off vs k, .off vs' k' => vs = vs' ∧ k = k'
  | _, _ => False

section
variable {P : Program} {B : Nat} {bo : Nat → Obj} {ch : Bool → Nat} {c : Nat}

theorem Kid.mono {Fin : LH → Prop} (hF : ∀ h h', Fin h → h.Le h' → Fin h') {x : KX} (k : Kid P B bo ch c Fin x) : ∀ y, x.le y → Kid P B bo ch c Fin y := by
  induction k with
  | @node x N hr st hN ih =>
    intro y hy
    let N' : KX → Prop := fun y' => ∃ x', N x' ∧ x'.le y'
    have run' : ∀ s, y = .run s → s.g.status = .running := fun s e => by
      subst e
      cases x with
      | run s0 => rw [← hy.2.2.1]; exact hr s0 rfl
      | _ => exact hy.elim
    refine .node N' run' ?_ (fun y' ⟨x', n, l⟩ => ih x' n y' l)
    cases st with
    | @own vs k g h st =>
      cases y with
      | run s' =>
        obtain ⟨vs', k', g', h'⟩ := s'
        obtain ⟨e1, e2, e3, l⟩ := hy
        dsimp only at e1 e2 e3 l
        subst e1 e2 e3
        exact .own ((st.mono l).imp fun g2 h2 ⟨h0', n, l'⟩ => ⟨_, n, rfl, rfl, rfl, l'⟩)
      | _ => exact hy.elim
    | @rd vs k g h st =>
      cases y with
      | run s' =>
        obtain ⟨vs', k', g', h'⟩ := s'
        obtain ⟨e1, e2, e3, l⟩ := hy
        dsimp only at e1 e2 e3 l
        subst e1 e2 e3
        exact .rd fun w m hw hb => let ⟨fr, cs, es, e, ev, n⟩ := st w m (l.sub hw) hb; ⟨fr, cs, es, e, ev, _, n, rfl, rfl, rfl, l⟩
      | _ => exact hy.elim
    | @add vs k g h st =>
      cases y with
      | run s' =>
        obtain ⟨vs', k', g', h'⟩ := s'
        obtain ⟨e1, e2, e3, l⟩ := hy
        dsimp only at e1 e2 e3 l
        subst e1 e2 e3
        exact .add fun w m hw hb => let ⟨fr, cs, es, e, ev, n⟩ := st w m (l.sub hw) hb; ⟨fr, cs, es, e, ev, _, n, rfl, rfl, rfl, l⟩
      | _ => exact hy.elim
    | @send v vs k g h z st n1 n2 =>
      cases y with
      | run s' =>
        obtain ⟨vs', k', g', h'⟩ := s'
        obtain ⟨e1, e2, e3, l⟩ := hy
        dsimp only at e1 e2 e3 l
        subst e1 e2 e3
        exact .send z (fun w hw => let ⟨es, e, ev⟩ := st w (l.sub hw); ⟨es, e, fun x hx => (ev x hx).le l⟩) ⟨_, n1, rfl, rfl, rfl, l⟩ ⟨_, n2, rfl, rfl, rfl, l, rfl, rfl, rfl⟩
      | _ => exact hy.elim
    | @shut g h hw st n =>
      cases y with
      | run s' =>
        obtain ⟨vs', k', g', h'⟩ := s'
        obtain ⟨e1, e2, e3, l⟩ := hy
        dsimp only at e1 e2 e3 l
        subst e1 e2 e3
        exact .shut hw (fun w a r tm hs hb => let ⟨g', es, n', e, ev, q⟩ := st w a r tm (l.sub hs) hb; ⟨g', es, n', e, fun x hx => (ev x hx).imp (·.le l) id, q⟩) ⟨_, n, l⟩
      | _ => exact hy.elim
    | @park s g v z e n =>
      cases y with
      | park s' g' v' z' =>
        obtain ⟨vs', k', g2, h'⟩ := s'
        obtain ⟨e1, e2, e3, l, e4, e5, e6⟩ := hy
        dsimp only at e1 e2 e3 l
        subst e1 e2 e3 e4 e5 e6
        exact .park e ⟨_, n, rfl, rfl, rfl, l⟩
      | _ => exact hy.elim
    | @gone h hf n =>
      cases y with
      | shut h' => exact .gone (hF _ _ hf hy) ⟨_, n, trivial⟩
      | _ => exact hy.elim
    | off =>
      cases y with
      | off => exact .off
      | _ => exact hy.elim
    | done =>
      cases y with
      | gone => exact .done
      | _ => exact hy.elim

variable (P B bo ch c) in
/-- A child's target: it goes on as a child that sends vs, and adds k times. -/
def kidTgt (Γf : List Ch) (vs : List Value) (k : Nat) : Tgt :=
  ⟨false, fun g h => (∃ fr cs, g = gor fr cs) ∧ Kid P B bo ch c (finOf Γf) (.run ⟨vs, k, g, h⟩), fun _ _ _ ⟨e, kd⟩ l => ⟨e, kd.mono (fun _ _ => finOf.le) _ ⟨rfl, rfl, rfl, l⟩⟩⟩

theorem kid_of_ev {Γf : List Ch} {vs : List Value} {k : Nat} {g : Goroutine} {h : LH} (e : Ev P (kidTgt P B bo ch c Γf vs k) g h) : (∃ fr cs, g = gor fr cs) → Kid P B bo ch c (finOf Γf) (.run ⟨vs, k, g, h⟩) := by
  induction e with
  | stop s => exact fun _ => s.2
  | @step g h K hk hn ih =>
    rintro ⟨fr, cs, rfl⟩
    refine .node (fun y => ∃ g' h', y = .run ⟨vs, k, g', h'⟩ ∧ K g' h' ∧ ∃ fr cs, g' = gor fr cs) (fun s e => by cases e; rfl) (.own fun w hw => ?_) (fun y ⟨g', h', e, kk, hg⟩ => by subst e; exact ih g' h' kk hg)
    obtain ⟨fr', cs', w', h', es, e1, u, ev, kk⟩ := hk w hw
    exact ⟨fr', cs', w', h', es, e1, u, ev, _, _, rfl, kk, _, _, rfl⟩
end

/-! ### rules that turn the target -/

def DoesXY (P : Program) (X Y : Tgt) (o : Oper) (E : Env) (Γ : List Ch) (φ : Value → List Ch → Prop) : Prop :=
  ∀ (b : Base) (R : Array Value) (ops : Array Oper) (i : Nat) (l : List Nat) (k : List Item) (cs : List Frame) (h : LH), ops[i]? = some o → Region.wanted o (yielded ops R) = true →
    (∀ x ∈ o.op.operands, ∀ u, Env.val E x = some u → evT R x = u) → Star Γ h →
    (∀ v Γ' h', φ v Γ' → Star Γ' h' → Ev P Y (gor (b.fr (putT R o.dst v) (.inRegion ops l :: k)) cs) h') →
    Ev P X (gor (b.fr R (.inRegion ops (i :: l) :: k)) cs) h

/-- All that has been taken comes ahead of operation lo. -/
def chkAnc (ops : Array Oper) (lo : Nat) (ex : List Nat) : Bool := (List.range lo).all fun j => isAnc ops (ix ex lo) (ix ex j)

section
variable {P : Program} {X : Tgt} {b : Base} {n : Nat} {dr : Bool} {ops : Array Oper} {lo : Nat} {ex : List Nat} {fl : Floats} {E : Env} {rem : List Oper} {k : List Item} {cs : List Frame} {Γ : List Ch}

theorem rg_loudXY {Y : Tgt} {o : Oper} {φ : Value → List Ch → Prop} (hdn : ∀ d, o.dst = some d → d < n) (hex : NotYet ex lo) (hg : GuardOK ops o E)
    (hc : dr = false ∨ (chkLast ops lo ex = true ∧ chkAnc ops lo ex = true)) (hdo : DoesXY P X Y o E Γ φ)
    (e : ∀ v Γ', φ v Γ' → Rg P Y b n dr ops (lo + 1) ex [] (match o.dst with | some d => (d, v) :: E | none => E) rem k cs Γ') :
    Rg P X b n dr ops lo ex fl E (o :: rem) k cs Γ := by
  intro hrem
  have hset : ∀ R v, Tms n E R → Tms n (match o.dst with | some d => (d, v) :: E | none => E) (putT R o.dst v) := by
    intro R v t
    unfold putT
    cases hd : o.dst with
    | none => exact t
    | some d => exact t.set (hdn d hd) v
  cases dr with
  | false =>
    intro hx0 R h t s
    subst hx0
    obtain ⟨ho, hrem'⟩ := remOf_static hrem
    have hlt := lt_of_get? ho
    rw [range'_head hlt]
    refine hdo b R ops lo _ k cs h ho (wanted_of t hg) (fun x _ u hu => evT_of t hu) s fun v Γ' h' hφ s' => ?_
    exact (e v Γ' hφ) hrem' rfl _ h' (hset R v t) s'
  | true =>
    obtain ⟨hc, hca⟩ := hc.resolve_left (by simp)
    intro kk od Xs R T h st s l lin
    obtain ⟨hlt, ho, hrem'⟩ := remOf_cons od hrem
    have hnt := od.notTaken hlt
    have hcl := od.closed lo
    have hltx := od.lt lo hlt
    induction lin generalizing R h with
    | nil hn =>
      exact absurd (st.tk _ (all_of_stuck kk hn _ hltx)) hnt
    | @cons Xs i l hx hr hl ih =>
      by_cases ht : Taken ops lo ex i
      · exact quiet_step kk st s hx hr ht fun R' h' st' s' => ih R' h' st' s'
      · have hil : i = ix ex lo := by
          obtain ⟨oi, hoi, hdi⟩ := hr
          obtain ⟨j, hj1, hj2⟩ := od.surj i (lt_of_get? hoi)
          have h1 := List.all_eq_true.1 hc j (List.mem_range.2 hj1)
          simp only [Bool.or_eq_true, decide_eq_true_eq] at h1
          rcases h1 with h1 | h1
          · rcases Nat.lt_or_ge j lo with h2 | h2
            · exact absurd ⟨j, h2, hj1, hj2⟩ ht
            · have : j = lo := by omega
              subst this; exact hj2.symm
          · rw [hj2] at h1
            have := anc_closed kk (S := fun i => Xs i = true) (fun i o hi ho => st.cl i o hi ho) i oi hoi hdi (ix ex lo) hltx h1
            exact absurd (st.tk _ this) hnt
        subst hil
        generalize hix : ix ex lo = i at *
        obtain ⟨o', ho', hdi⟩ := hr
        rw [ho] at ho'; cases ho'
        have hanc := anc_closed kk (S := fun i => Xs i = true) (fun i o hi ho => st.cl i o hi ho) i o ho hdi
        have hread : ∀ s ∈ readsOf ops o, R[s]? = T[s]? := by
          intro s hs
          rcases st.rel s with h1 | ⟨j, _, h2, h3⟩
          · exact h1
          · have := hanc j (lt_of_dst h3) (kk.use i o s j ho hs h3)
            rw [h2] at this; cases this
        have hw : Region.wanted o (yielded ops R) = true := by rw [wanted_congr hread]; exact wanted_of st.tm hg
        refine hdo b R ops i l k cs h ho hw (fun x hx' u hu => (evT_congr hread x hx').trans (evT_of st.tm hu)) s fun v Γ' h' hφ s' => ?_
        have hrg := e v Γ' hφ
        have hts : ∀ j, Taken ops (lo + 1) ex j ↔ Taken ops lo ex j ∨ j = i := fun j => by rw [← hix]; exact taken_succ hlt
        have hancT := anc_closed kk (S := Taken ops lo ex) (fun i o hi ho => hcl i o hi ho)
        refine hrg hrem' kk od (addX Xs i) (putT R o.dst v) (putT T o.dst v) h' ⟨hset T v st.tm, ?_, ?_, ?_, ?_, ?_⟩ s' l hl
        · unfold putT; split
          · rw [Array.size_setIfInBounds]; exact st.sz
          · exact st.sz
        · intro s
          by_cases hs : dstOf ops i = some s
          · left
            have hds : o.dst = some s := by unfold dstOf at hs; rw [ho] at hs; exact hs
            unfold putT; rw [hds]
            dsimp only
            rw [Array.getElem?_setIfInBounds_self_of_lt (by rw [st.sz]; exact hdn s hds), Array.getElem?_setIfInBounds_self_of_lt (by rw [st.tm.size]; exact hdn s hds)]
          · have hP : ∀ R' : Array Value, (putT R' o.dst v)[s]? = R'[s]? := by
              intro R'
              unfold putT
              split
              · rename_i d hd'
                refine Array.getElem?_setIfInBounds_ne fun e => hs ?_
                subst e; unfold dstOf; rw [ho]; exact hd'
              · rfl
            rw [hP, hP]
            rcases st.rel s with h1 | ⟨j, h1, h2, h3⟩
            · exact .inl h1
            · refine .inr ⟨j, (hts j).2 (.inl h1), ?_, h3⟩
              unfold addX
              split
              · rename_i hj; subst hj; exact absurd h3 hs
              · exact h2
        · intro j hj
          unfold addX at hj
          split at hj
          · rename_i hj'; exact (hts j).2 (.inr hj')
          · exact (hts j).2 (.inl (st.tk j hj))
        · intro j o' hj ho' a ha
          unfold addX at hj ⊢
          split at hj
          · rename_i hj'; subst hj'; rw [ho] at ho'; cases ho'
            split
            · rfl
            · exact hdi a ha
          · split
            · rfl
            · exact st.cl j o' hj ho' a ha
        · intro j o' hj ho' hxj
          exfalso
          unfold addX at hxj
          split at hxj
          · cases hxj
          · rename_i hne
            have hj' : Taken ops lo ex j := by
              rcases (hts j).1 hj with h1 | h1
              · exact h1
              · exact absurd h1 hne
            obtain ⟨j0, j1, j2, j3⟩ := hj'
            have h1 := List.all_eq_true.1 hca j0 (List.mem_range.2 j1)
            rw [hix, j3] at h1
            have := hanc j (by rw [← j3]; exact od.lt j0 j2) h1
            rw [hxj] at this; cases this

end
end Go.Lx
