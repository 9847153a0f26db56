/-
  Lemmas towards the law, proved without conditions of their own: KEEP: what a step of a world does; took as one; comparing totals; KEEP: move: one move from four bytes.
-/
import Derived.Test.YtedaknlacigbhaaPk20
namespace Go.Lx
open Go
section
variable {P : Program} {X : Tgt} {b : Base} {n : Nat} {dr : Bool} {ops : Array Oper} {lo : Nat} {ex : List Nat} {fl : Floats} {E : Env} {rem : List Oper} {k : List Item} {cs : List Frame} {Γ : List Ch}
variable {d : Nat} {T : TypeId} {pos : String} {af : Array Edge} {gd : Option (Nat × Bool)}

theorem wpE_eqArr2 {P : Program} {d t el : Nat} {kk k2 : IntKind} {a0 a1 c0 c1 : Int} (hu : P.underlying t = some (.array 2 el)) [u : Under P el (.int k2)] [s : Scalar P el] [c : CellsOf P el 1] {h : LH} {Q : Bool → LH → Prop} (q : Q (decide (a0 = c0) && decide (a1 = c1)) h) :
    wpE P (Op.equalIn (d + 1 + 1) t (.agg ⟨[.int kk a0, .int kk a1]⟩) (.agg ⟨[.int kk c0, .int kk c1]⟩)) Q h := by
  obtain ⟨ci, e1, e2⟩ := c.size
  rw [Op.equalIn, wpE_bind', wpE_underlying hu]
  simp only [wpE_bind']
  rw [wpE_sizeOf e1, e2]
  simp only [Std.Legacy.Range.forIn_eq_forIn_range', Std.Legacy.Range.size, Nat.sub_zero, Nat.add_one_sub_one, Nat.div_one, List.range', List.forIn_cons, List.forIn_nil, wpE_bind']
  refine wpE_part rfl (wpE_part rfl (wpE_eqInt ?_))
  by_cases h0 : a0 = c0
  · simp only [h0, decide_true, Bool.not_true, Bool.false_eq_true, if_false, wpE_pure, wpE_bind']
    refine wpE_part rfl (wpE_part rfl (wpE_eqInt ?_))
    by_cases h1 : a1 = c1
    · simp only [h1, decide_true, Bool.not_true, Bool.false_eq_true, if_false, wpE_pure]
      simpa [h0, h1] using q
    · simp only [h1, decide_false, Bool.not_false, if_true, wpE_pure]
      simpa [h0, h1] using q
  · simp only [h0, decide_false, Bool.not_false, if_true, wpE_pure]
    simpa [h0] using q

/-- An array of two against another. -/
theorem rg_eqArr2 {t t' : TypeId} {el : TypeId} {x y : Operand} {kk k2 : IntKind} {a0 a1 c0 c1 : Int} [hu : Under P t (.array 2 el)] [u : Under P el (.int k2)] [s : Scalar P el] [c : CellsOf P el 1] (hx : Env.val E x = some (.agg ⟨[.int kk a0, .int kk a1]⟩)) (hy : Env.val E y = some (.agg ⟨[.int kk c0, .int kk c1]⟩)) (hge : P.eqGuardType P.depth t = false)
    (e : Rg P X b n dr ops (lo + 1) ex fl ((d, .bool (decide (a0 = c0) && decide (a1 = c1))) :: E) rem k cs Γ)
    (hdn : d < n := by decide) (hex : NotYet ex lo := trivial) (hg : GuardOK ops ⟨some d, .binOp .eql t x y t', T, pos, af, gd⟩ E := by first | exact trivial | exact ⟨_, rfl, rfl⟩) :
    Rg P X b n dr ops lo ex fl E (⟨some d, .binOp .eql t x y t', T, pos, af, gd⟩ :: rem) k cs Γ :=
  rg_pure rfl hdn hex rfl hg (fun _ ρ h hρ _ => by
    have h1 := hρ x (by simp [Op.operands]) _ hx
    have h2 := hρ y (by simp [Op.operands]) _ hy
    simp only [execOp, wpE_bind', h1, h2]
    refine wpE_eqGuard_agg hge ?_
    show wpE P (do pure (Value.bool (← Op.equalIn (9998 + 1 + 1) t (.agg ⟨[.int kk a0, .int kk a1]⟩) (.agg ⟨[.int kk c0, .int kk c1]⟩)))) _ h
    rw [wpE_bind']
    exact wpE_eqArr2 hu.eq ⟨rfl, rfl⟩) e
end
end Go.Lx

namespace Go.Br
open Go Go.Lx Go.Proofs
set_option maxRecDepth 100000

abbrev ownR (c : Int) (r0 r1 : List Rec) : List Rec := if c = 0 then r0 else r1
abbrev othR (c : Int) (r0 r1 : List Rec) : List Rec := if c = 0 then r1 else r0
abbrev ownC (c : Int) (S : Bg) : Cn := if c = 0 then S.s0 else S.s1
abbrev othC (c : Int) (S : Bg) : Cn := if c = 0 then S.s1 else S.s0
abbrev tkR0 (c : Int) (x : Stp) (r0 r1 : List Rec) : List Rec := if c = 0 then (tookR x r0 r1).1 else (tookR x r1 r0).2
abbrev tkR1 (c : Int) (x : Stp) (r0 r1 : List Rec) : List Rec := if c = 0 then (tookR x r0 r1).2 else (tookR x r1 r0).1

theorem do_link {B : Nat} {S : Bg} {r0 r1 : List Rec} (k : KOk B S r0 r1) (hB : B < 100000000) (c : Int) (hc : c = 0 ∨ c = 1) (x : Stp) (hx : 0 ≤ x.n ∧ x.n < 18446744073709551616) (ha : 0 ≤ x.p.amount) (he : (bgDo S c x).2.2 = 0) :
    TookOk x (bgDo S c x).2.1 (ownR c r0 r1) (othR c r0 r1) (ownC c (bgDo S c x).1).hd.opn ∧ KOk (B + 1) (bgDo S c x).1 (tkR0 c x r0 r1) (tkR1 c x r0 r1) := by
  have kk := bgStep_keeps k.ok hB c x hx.1 (if c = 0 then S.s1.heads.length else S.s0.heads.length) (Nat.le_refl _)
  rcases hc with rfl | rfl
  · obtain ⟨h1, h2⟩ := step_link (by decide) k.link k.ok.ok0 k.ok.ok1 hB k.ok.k0 x hx ha S.s1.heads.length he
    exact ⟨h1, kk, h2⟩
  · obtain ⟨h1, h2⟩ := step_link (by decide) k.link.swap k.ok.ok1 k.ok.ok0 hB k.ok.k1 x hx ha S.s0.heads.length he
    exact ⟨h1, kk, h2.swap⟩

theorem do_err {S : Bg} (c : Int) (x : Stp) (he : (bgDo S c x).2.2 ≠ 0) : (bgDo S c x).1 = S ∧ (bgDo S c x).2.1 = 0 := by
  unfold bgDo bgStep at he ⊢
  by_cases h0 : c = 0
  · simp only [h0, if_true] at he ⊢
    obtain ⟨e1, e2⟩ := step_err he
    rw [e1, e2, if_neg he]; exact ⟨rfl, rfl⟩
  · by_cases h1 : c = 1
    · subst h1
      simp only [if_true, if_neg (show ¬ (1 : Int) = 0 by decide)] at he ⊢
      obtain ⟨e1, e2⟩ := step_err he
      rw [e1, e2, if_neg he]; exact ⟨rfl, rfl⟩
    · simp only [h0, h1, if_false]; exact ⟨trivial, trivial⟩

theorem took_ok (w : Nat) (S : Bg) (r0 r1 : List Rec) (c n : Int) (x : Stp) (B : Nat) (Γ : List Ch) (ok : BgOk B S) (hB : B < 100000000) (hc : c = 0 ∨ c = 1) (hl : r0.length < 100000000 ∧ r1.length < 100000000) (tk : TookOk x n (ownR c r0 r1) (othR c r0 r1) (ownC c S).hd.opn) :
    CallsX Try.prog 24 #[ptrV w, .int .i64 c, stV x, .int .u64 n] (.pr (KwAt w S r0 r1) :: Γ) (fun v Δ => v = .bool true ∧ Ent Δ (.pr (KwAt w S (tkR0 c x r0 r1) (tkR1 c x r0 r1)) :: Γ)) := by
  obtain ⟨t1, t4, t5, t6⟩ := tk
  obtain ⟨kd, xn, p⟩ := x
  dsimp only at t1 t4 t5 t6
  rcases hc with rfl | rfl
  · by_cases k1 : kd = 1
    · subst k1; exact took1_0 w S r0 r1 n xn p Γ hl.1 (t1 rfl)
    by_cases k4 : kd = 4
    · subst k4
      obtain ⟨j, y, h1, h2, h3, h4, h5⟩ := t4 rfl
      subst h2
      have e := took4_0 w S r0 r1 n p Γ j y h1 hl.2 h3 h4 h5
      rw [show updR answ r1 j = tkR1 0 ⟨4, (j : Int) + 1, p⟩ r0 r1 from by show _ = updR answ r1 ((j : Int) + 1 - 1).toNat; rw [show ((j : Int) + 1 - 1).toNat = j by omega]] at e
      exact e
    by_cases k5 : kd = 5
    · subst k5
      obtain ⟨j, y, h1, h2, h3, h4, h5⟩ := t5 rfl
      subst h2
      have e := took5_0 w S r0 r1 n p Γ j y h1 hl.1 h3 h4 h5
      rw [show updR unp r0 j = tkR0 0 ⟨5, (j : Int) + 1, p⟩ r0 r1 from by show _ = updR unp r0 ((j : Int) + 1 - 1).toNat; rw [show ((j : Int) + 1 - 1).toNat = j by omega]] at e
      exact e
    by_cases k6 : kd = 6
    · subst k6
      obtain ⟨j, y, h1, h2, h3, h4, h5⟩ := t6 (.inl rfl)
      subst h2
      have e := took6_0 w S r0 r1 n p B Γ ok hB j y h1 hl.1 h3 h4 h5
      rw [show updR unp r0 j = tkR0 0 ⟨6, (j : Int) + 1, p⟩ r0 r1 from by show _ = updR unp r0 ((j : Int) + 1 - 1).toNat; rw [show ((j : Int) + 1 - 1).toNat = j by omega]] at e
      exact e
    by_cases k7 : kd = 7
    · subst k7
      obtain ⟨j, y, h1, h2, h3, h4, h5⟩ := t6 (.inr rfl)
      subst h2
      have e := took7_0 w S r0 r1 n p B Γ ok hB j y h1 hl.1 h3 h4 h5
      rw [show updR unp r0 j = tkR0 0 ⟨7, (j : Int) + 1, p⟩ r0 r1 from by show _ = updR unp r0 ((j : Int) + 1 - 1).toNat; rw [show ((j : Int) + 1 - 1).toNat = j by omega]] at e
      exact e
    have e := tookX_0 w S r0 r1 n ⟨kd, xn, p⟩ Γ k1 k4 k5 k6 k7
    have et : tookR ⟨kd, xn, p⟩ r0 r1 = (r0, r1) := by unfold tookR; dsimp only; rw [if_neg k1, if_neg k4, if_neg (by omega)]
    rw [show tkR0 0 ⟨kd, xn, p⟩ r0 r1 = r0 from by show (tookR _ _ _).1 = _; rw [et], show tkR1 0 ⟨kd, xn, p⟩ r0 r1 = r1 from by show (tookR _ _ _).2 = _; rw [et]]
    exact e
  · by_cases k1 : kd = 1
    · subst k1; exact took1_1 w S r0 r1 n xn p Γ hl.2 (t1 rfl)
    by_cases k4 : kd = 4
    · subst k4
      obtain ⟨j, y, h1, h2, h3, h4, h5⟩ := t4 rfl
      subst h2
      have e := took4_1 w S r0 r1 n p Γ j y h1 hl.1 h3 h4 h5
      rw [show updR answ r0 j = tkR0 1 ⟨4, (j : Int) + 1, p⟩ r0 r1 from by show _ = updR answ r0 ((j : Int) + 1 - 1).toNat; rw [show ((j : Int) + 1 - 1).toNat = j by omega]] at e
      exact e
    by_cases k5 : kd = 5
    · subst k5
      obtain ⟨j, y, h1, h2, h3, h4, h5⟩ := t5 rfl
      subst h2
      have e := took5_1 w S r0 r1 n p Γ j y h1 hl.2 h3 h4 h5
      rw [show updR unp r1 j = tkR1 1 ⟨5, (j : Int) + 1, p⟩ r0 r1 from by show _ = updR unp r1 ((j : Int) + 1 - 1).toNat; rw [show ((j : Int) + 1 - 1).toNat = j by omega]] at e
      exact e
    by_cases k6 : kd = 6
    · subst k6
      obtain ⟨j, y, h1, h2, h3, h4, h5⟩ := t6 (.inl rfl)
      subst h2
      have e := took6_1 w S r0 r1 n p B Γ ok hB j y h1 hl.2 h3 h4 h5
      rw [show updR unp r1 j = tkR1 1 ⟨6, (j : Int) + 1, p⟩ r0 r1 from by show _ = updR unp r1 ((j : Int) + 1 - 1).toNat; rw [show ((j : Int) + 1 - 1).toNat = j by omega]] at e
      exact e
    by_cases k7 : kd = 7
    · subst k7
      obtain ⟨j, y, h1, h2, h3, h4, h5⟩ := t6 (.inr rfl)
      subst h2
      have e := took7_1 w S r0 r1 n p B Γ ok hB j y h1 hl.2 h3 h4 h5
      rw [show updR unp r1 j = tkR1 1 ⟨7, (j : Int) + 1, p⟩ r0 r1 from by show _ = updR unp r1 ((j : Int) + 1 - 1).toNat; rw [show ((j : Int) + 1 - 1).toNat = j by omega]] at e
      exact e
    have e := tookX_1 w S r0 r1 n ⟨kd, xn, p⟩ Γ k1 k4 k5 k6 k7
    have et : tookR ⟨kd, xn, p⟩ r1 r0 = (r1, r0) := by unfold tookR; dsimp only; rw [if_neg k1, if_neg k4, if_neg (by omega)]
    rw [show tkR0 1 ⟨kd, xn, p⟩ r0 r1 = r0 from by show (tookR _ _ _).2 = _; rw [et], show tkR1 1 ⟨kd, xn, p⟩ r0 r1 = r1 from by show (tookR _ _ _).1 = _; rw [et]]
    exact e

end Go.Br

namespace Go.Br
open Go Go.Lx Go.Proofs
open Go.Lx renaming rg_move → zA, rg_int → zB, rg_nilCheck → zC, rg_fieldAddr0 → zD, rg_fieldAddr → zE, rg_load → zF, rg_assign → zG, rg_loadAgg → zH, rg_extract → zI, rg_not → zJ, rg_pick → zK, rg_off → zL, rg_offU → zM, rg_store → zN, rg_storeAgg → zO, rg_convInt → zP, rg_done → zQ, ex_seq → zR, rg_start_s → zS, rg_start_d → zT, ex_cond_true → zU, ex_cond_false → zV, rg_alloc → zW, rg_boxAgg → zX, rg_build → zY, rg_lenSl → zZ, rg_lenMap → yA, ex_skip → yB, ex_block → yC, ex_inBlock → yD, ex_exit → yE, rg_caseG → yZ
set_option maxRecDepth 100000

theorem wuB (x : Int) : 0 ≤ IntKind.wrap .u64 x ∧ IntKind.wrap .u64 x < 18446744073709551616 := by rw [wU]; omega

theorem LookC_bg (b : Nat) (S : Bg) (c : Int) (B : Nat) (Γ : List Ch) (hc : c = 0 ∨ c = 1) (ok : BgOk B S) (hB : B < 100000000) :
    CallsX Try.prog 25 #[ptrV b, .int .i64 c] (.pr (BgAt b S) :: Γ)
      (fun v Δ => ∃ a cap kn, v = .tuple #[.agg ⟨lookL (ownC c S) kn (.slice a (ownC c S).hd.packets.length cap)⟩, .int .i64 0] ∧
        Ent Δ (.pr (SlV 36 1 (.slice a (ownC c S).hd.packets.length cap) ((ownC c S).hd.packets.map qV) (ownC c S).hd.packets.length) :: .pr (BgAt b S) :: Γ)) := by
  rcases hc with rfl | rfl
  · refine (Look0_bg b S B Γ ok hB).mono ?_
    rintro v Δ ⟨a, cap, e, h⟩; exact ⟨a, cap, _, e, h⟩
  · refine (Look1_bg b S B Γ ok hB).mono ?_
    rintro v Δ ⟨a, cap, e, h⟩; exact ⟨a, cap, _, e, h⟩

theorem ownC_ok {B : Nat} {S : Bg} (ok : BgOk B S) (c : Int) : Ok B (ownC c S) := by
  unfold ownC; split
  · exact ok.ok0
  · exact ok.ok1

theorem ltB {x : Int} {B : Nat} (h : 0 ≤ x ∧ x ≤ (B : Int)) (hB : B < 1000000000) : 0 ≤ x ∧ x < 18446744073709551616 := by omega

theorem nrecvB {B : Nat} {s : Cn} (ok : Ok B s) : 0 ≤ s.hd.nrecv ∧ s.hd.nrecv ≤ ((B + 1 : Nat) : Int) := by
  have e := ok.hd.nrecv; have e2 := ok.hd.recvB; omega

theorem tm2 (a : UInt8) : ∃ c : Int, Int.tmod (IntKind.wrap .i64 (a.toNat : Int)) 2 = c ∧ (c = 0 ∨ c = 1) := by
  have h := a.toNat_lt
  refine ⟨_, rfl, ?_⟩
  rw [wIn (by omega) (by omega), Int.tmod_eq_emod_of_nonneg (by omega)]
  omega

set_option maxHeartbeats 16000000 in
theorem move_ok (w : Nat) (S : Bg) (r0 r1 : List Rec) (s : ByteArray) (B : Nat) (Γ : List Ch) (hs : 4 ≤ s.size) (k : KOk B S r0 r1) (hB : B < 99999999) :
    CallsX Try.prog 19 #[ptrV w, .string s] (.pr (KwAt w S r0 r1) :: Γ) (fun v Δ => ∃ S' r0' r1', v = .bool true ∧ KOk (B + 1) S' r0' r1' ∧ Ent Δ (.pr (KwAt w S' r0' r1') :: Γ)) := by
  have hok := k.ok
  have hlen := k.len
  have gb : ∀ i, i < 4 → ∃ b : UInt8, s[i]? = some b := fun i hi => ⟨s[i]'(by omega), by rw [getElem?_pos]⟩
  obtain ⟨b0, hb0⟩ := gb 0 (by decide)
  obtain ⟨b1, hb1⟩ := gb 1 (by decide)
  obtain ⟨b2, hb2⟩ := gb 2 (by decide)
  obtain ⟨b3, hb3⟩ := gb 3 (by decide)
  obtain ⟨c, hcc, hc⟩ := tm2 b0
  have hc' : (1 - c = 0 ∨ 1 - c = 1) := by omega
  refine calls_of_body (args := [ptrV w, .string s]) Try.func19 rfl Try.ntmps19 fun X cs ret => ?_
  refine ex_seq (rg_start_s ?_)
  repeat (first|refine zA rfl ?_|refine zG rfl ?_|refine zQ ?_|refine zR ?_|refine zS ?_)
  refine rg_indexStr rfl rfl (by decide) hb0 ?_
  repeat refine zP rfl ?_
  refine rg_rem rfl rfl (by decide) ?_
  rw [hcc]
  repeat (first|refine zA rfl ?_|refine zG rfl ?_|refine zQ ?_|refine zR ?_|refine zS ?_)
  refine rg_indexStr rfl rfl (by decide) hb2 ?_
  refine rg_rem rfl rfl (by decide) ?_
  repeat (first|refine zA rfl ?_|refine zG rfl ?_|refine zP rfl ?_|refine zQ ?_|refine zR ?_|refine zS ?_)
  refine rg_callE rfl (total_ok w S r0 r1 B _ k (by omega)) ?_
  refine ⟨.inl rfl, ?_⟩
  repeat (first|refine zA rfl ?_|refine zO rfl rfl ?_|refine zQ ?_|refine zR ?_|refine zS ?_|refine zW fun bl=>?_|refine zY rfl ?_)
  rename_i bf
  refine rg_indexStr rfl rfl (by decide) hb1 ?_
  refine rg_rem rfl rfl (by decide) ?_
  repeat (first|refine zG rfl ?_|refine zQ ?_|refine zR ?_|refine yC ?_)
  (refine Ex.front 2 ?_)
  refine Ex.open_ kw_open fun z _ => ?_
  obtain ⟨b, v⟩ := z
  dsimp only [kwL]
  (refine Ex.front 7 ?_; refine Ex.front 7 ?_; refine Ex.front 7 ?_; refine Ex.front 7 ?_; refine Ex.front 7 ?_; refine Ex.front 7 ?_; refine Ex.front 7 ?_; refine Ex.front 7 ?_; refine Ex.front 9 ?_; refine Ex.front 9 ?_)
  apply joinC (ι := Stp) (fun x => (0 ≤ x.n ∧ x.n < 18446744073709551616) ∧ 0 ≤ x.p.amount) (fun x => [(8, ptrV bl), (7, ptrV bf), (5, .int .i64 c), (0, ptrV w)]) (fun x => .pt bl true (.cells ⟨stC x⟩ 51 (0, 0)) :: .pt bf true (.cells ⟨[.int .u64 3000, .int .u64 3000]⟩ 66 (0, 0)) :: kwL w b v S r0 r1 Γ)
  · intro J
    repeat (first|refine zA rfl ?_|refine zB rfl rfl rfl ?_|refine zG rfl ?_|refine zQ ?_|refine zS ?_)
    refine ex_cond_split rfl (fun q1 => ?_) (fun q1 => ?_)
    · repeat refine zR ?_
      refine rg_start_s ?_
      repeat (first|refine zD rfl ?_|refine zN rfl rfl ?_|refine zQ ?_)
      refine rg_start_d (by decide+kernel) (by decide+kernel) ?_
      repeat (first | (first|refine zA rfl ?_|refine zB rfl rfl rfl ?_|refine zE rfl ?_|refine zO rfl rfl ?_|refine zP rfl ?_|refine zQ ?_|refine zR ?_|refine zY rfl ?_|refine yD ?_) | refine rg_indexStr rfl rfl (by decide) hb2 ?_ | refine rg_indexStr rfl rfl (by decide) hb3 ?_ | refine rg_rem rfl rfl (by decide) ?_ | refine rg_quo rfl rfl (by decide) ?_)
      refine Ex.sup (J ⟨_, _, ⟨_, _, _, _, _, _, _⟩⟩ ⟨wuB _, (wuB _).1⟩) ?_; exact ⟨rfl, rfl, rfl, rfl, trivial⟩
    repeat (first|refine zA rfl ?_|refine zB rfl rfl rfl ?_|refine zG rfl ?_|refine zQ ?_|refine zR ?_|refine zS ?_)
    refine ex_cond_split rfl (fun q2 => ?_) (fun q2 => ?_)
    · skip
      refine rg_start_s ?_
      repeat (first|refine zD rfl ?_|refine zN rfl rfl ?_|refine zQ ?_|refine zR ?_|refine yD ?_)
      refine Ex.sup (J ⟨_, _, ⟨_, _, _, _, _, _, _⟩⟩ ⟨wuB _, (Int.le_refl 0)⟩) ?_; exact ⟨rfl, rfl, rfl, rfl, trivial⟩
    repeat (first|refine zA rfl ?_|refine zB rfl rfl rfl ?_|refine zG rfl ?_|refine zQ ?_|refine zR ?_|refine zS ?_)
    refine ex_cond_split rfl (fun q3 => ?_) (fun q3 => ?_)
    · repeat refine zR ?_
      refine rg_start_s ?_
      repeat (first|refine zD rfl ?_|refine zN rfl rfl ?_|refine zQ ?_)
      refine rg_start_s ?_
      repeat refine zA rfl ?_
      refine rg_indexStr rfl rfl (by decide) hb2 ?_
      repeat (first|refine zE rfl ?_|refine zN rfl rfl ?_|refine zP rfl ?_|refine zQ ?_|refine zR ?_|refine yD ?_)
      refine Ex.sup (J ⟨_, _, ⟨_, _, _, _, _, _, _⟩⟩ ⟨wuB _, (Int.le_refl 0)⟩) ?_; exact ⟨rfl, rfl, rfl, rfl, trivial⟩
    repeat (first|refine zA rfl ?_|refine zB rfl rfl rfl ?_|refine zG rfl ?_|refine zQ ?_|refine zR ?_|refine zS ?_)
    refine ex_cond_split rfl (fun q4 => ?_) (fun q4 => ?_)
    · repeat refine zR ?_
      refine rg_start_s ?_
      repeat (first|refine zD rfl ?_|refine zN rfl rfl ?_|refine zQ ?_|refine zR ?_)
      refine rg_start_s ?_
      repeat (first|refine zA rfl ?_|refine zB rfl rfl rfl ?_|refine zC rfl ?_|refine zD rfl ?_|refine zF rfl ?_)
      (refine Rg.front 8 ?_; refine Rg.front 8 ?_; refine Rg.front 8 ?_; refine Rg.front 8 ?_; refine Rg.front 8 ?_; refine Rg.front 8 ?_; refine Rg.front 8 ?_; refine Rg.front 8 ?_; refine Rg.front 8 ?_; refine Rg.front 9 ?_)
      rw [show IntKind.wrap .i64 (1 - c) = 1 - c from wIn (by omega) (by omega)]
      refine rg_call rfl (LookC_bg b S (1 - c) B _ hc' hok (by omega)) ?_
      rintro _ D ⟨la, lc, kn, rfl, hE⟩
      refine ⟨.inl rfl, Rg.ent hE ?_⟩
      unfold lookL
      repeat (first|refine zA rfl ?_|refine zG rfl ?_|refine zI rfl rfl ?_|refine zO rfl rfl ?_|refine zQ ?_|refine zW fun bl=>?_)
      rename_i bk
      refine rg_start_s ?_
      repeat (first|refine zD rfl ?_|refine zE rfl ?_|refine zF rfl ?_|refine zN rfl rfl ?_|refine zQ ?_|refine zR ?_|refine yD ?_)
      (refine Ex.front 2 ?_; refine Ex.front 11 ?_; refine Ex.front 11 ?_; refine Ex.front 11 ?_; refine Ex.front 11 ?_; refine Ex.front 11 ?_; refine Ex.front 11 ?_; refine Ex.front 11 ?_; refine Ex.front 11 ?_; refine Ex.front 11 ?_; refine Ex.front 11 ?_; refine Ex.front 11 ?_)
      refine Ex.ent (Ent.drop (Ent.drop (Ent.refl _))) ?_
      refine Ex.sup (J ⟨_, _, ⟨_, _, _, _, _, _, _⟩⟩ ⟨?_, (Int.le_refl 0)⟩) ?_
      · exact ltB (ownC_ok hok (1 - c)).hd.height (by omega)
      exact ⟨rfl, rfl, rfl, rfl, trivial⟩
    repeat (first|refine zA rfl ?_|refine zB rfl rfl rfl ?_|refine zG rfl ?_|refine zQ ?_|refine zR ?_|refine zS ?_)
    refine ex_cond_split rfl (fun q5 => ?_) (fun q5 => ?_)
    · repeat refine zR ?_
      refine rg_start_s ?_
      repeat (first|refine zD rfl ?_|refine zN rfl rfl ?_|refine zQ ?_|refine zR ?_)
      refine rg_start_s ?_
      repeat (first|refine zA rfl ?_|refine zC rfl ?_|refine zD rfl ?_|refine zF rfl ?_)
      (refine Rg.front 8 ?_; refine Rg.front 8 ?_; refine Rg.front 8 ?_; refine Rg.front 8 ?_; refine Rg.front 8 ?_; refine Rg.front 8 ?_; refine Rg.front 8 ?_; refine Rg.front 8 ?_; refine Rg.front 8 ?_; refine Rg.front 9 ?_)
      refine rg_call rfl (LookC_bg b S c B _ hc hok (by omega)) ?_
      rintro _ D ⟨la, lc, kn, rfl, hE⟩
      refine ⟨.inl rfl, Rg.ent hE ?_⟩
      unfold lookL
      repeat (first|refine zA rfl ?_|refine zG rfl ?_|refine zI rfl rfl ?_|refine zO rfl rfl ?_|refine zQ ?_|refine zW fun bl=>?_)
      rename_i bk
      refine rg_start_s ?_
      repeat (first|refine zE rfl ?_|refine zF rfl ?_|refine zN rfl rfl ?_|refine zQ ?_|refine zR ?_|refine yD ?_)
      (refine Ex.front 2 ?_; refine Ex.front 11 ?_; refine Ex.front 11 ?_; refine Ex.front 11 ?_; refine Ex.front 11 ?_; refine Ex.front 11 ?_; refine Ex.front 11 ?_; refine Ex.front 11 ?_; refine Ex.front 11 ?_; refine Ex.front 11 ?_; refine Ex.front 11 ?_; refine Ex.front 11 ?_)
      refine Ex.ent (Ent.drop (Ent.drop (Ent.refl _))) ?_
      refine Ex.sup (J ⟨_, _, ⟨_, _, _, _, _, _, _⟩⟩ ⟨?_, (Int.le_refl 0)⟩) ?_
      · exact ltB (nrecvB (ownC_ok hok c)) (by omega)
      exact ⟨rfl, rfl, rfl, rfl, trivial⟩
    repeat (first|refine zA rfl ?_|refine zB rfl rfl rfl ?_|refine zG rfl ?_|refine zQ ?_|refine zR ?_|refine zS ?_)
    refine ex_cond_split rfl (fun q6 => ?_) (fun q6 => ?_)
    · skip
      refine rg_start_s ?_
      repeat (first|refine zD rfl ?_|refine zN rfl rfl ?_|refine zQ ?_|refine zR ?_|refine yD ?_)
      refine Ex.sup (J ⟨_, _, ⟨_, _, _, _, _, _, _⟩⟩ ⟨wuB _, (Int.le_refl 0)⟩) ?_; exact ⟨rfl, rfl, rfl, rfl, trivial⟩
    repeat (first|refine zA rfl ?_|refine zB rfl rfl rfl ?_|refine zG rfl ?_|refine zQ ?_|refine zR ?_|refine zS ?_)
    refine ex_cond_split rfl (fun q7 => ?_) (fun q7 => ?_)
    · skip
      refine rg_start_s ?_
      repeat (first|refine zD rfl ?_|refine zN rfl rfl ?_|refine zQ ?_|refine zR ?_|refine yD ?_)
      refine Ex.sup (J ⟨_, _, ⟨_, _, _, _, _, _, _⟩⟩ ⟨wuB _, (Int.le_refl 0)⟩) ?_; exact ⟨rfl, rfl, rfl, rfl, trivial⟩
    repeat (first|refine zA rfl ?_|refine zB rfl rfl rfl ?_|refine zG rfl ?_|refine zQ ?_|refine zR ?_|refine zS ?_)
    refine ex_cond_split rfl (fun q8 => ?_) (fun q8 => ?_)
    · skip
      refine rg_start_s ?_
      repeat (first|refine zD rfl ?_|refine zN rfl rfl ?_|refine zQ ?_|refine zR ?_|refine yD ?_)
      refine Ex.sup (J ⟨_, _, ⟨_, _, _, _, _, _, _⟩⟩ ⟨wuB _, (Int.le_refl 0)⟩) ?_; exact ⟨rfl, rfl, rfl, rfl, trivial⟩
    repeat (first|refine zA rfl ?_|refine zR ?_|refine zS ?_)
    refine rg_indexStr rfl rfl (by decide) hb2 ?_
    repeat (first|refine zB rfl rfl rfl ?_|refine zG rfl ?_|refine zQ ?_)
    refine ex_cond_split rfl (fun q => ?_) (fun q => ?_)
    · skip
      refine rg_start_s ?_
      repeat (first|refine zD rfl ?_|refine zN rfl rfl ?_|refine zQ ?_|refine zR ?_|refine yD ?_)
      refine Ex.sup (J ⟨_, _, ⟨_, _, _, _, _, _, _⟩⟩ ⟨wuB _, (Int.le_refl 0)⟩) ?_; exact ⟨rfl, rfl, rfl, rfl, trivial⟩
    repeat (first|refine zA rfl ?_|refine zR ?_|refine zS ?_)
    refine rg_indexStr rfl rfl (by decide) hb2 ?_
    repeat (first|refine zB rfl rfl rfl ?_|refine zG rfl ?_|refine zQ ?_)
    refine ex_cond_split rfl (fun q => ?_) (fun q => ?_)
    · skip
      refine rg_start_s ?_
      repeat (first|refine zD rfl ?_|refine zN rfl rfl ?_|refine zQ ?_|refine zR ?_|refine yD ?_)
      refine Ex.sup (J ⟨_, _, ⟨_, _, _, _, _, _, _⟩⟩ ⟨wuB _, (Int.le_refl 0)⟩) ?_; exact ⟨rfl, rfl, rfl, rfl, trivial⟩
    · repeat refine zR ?_
      refine rg_start_s ?_
      repeat (first|refine zD rfl ?_|refine zN rfl rfl ?_|refine zQ ?_|refine zR ?_)
      refine rg_start_s ?_
      repeat (first|refine zA rfl ?_|refine zC rfl ?_|refine zD rfl ?_|refine zF rfl ?_)
      (refine Rg.front 8 ?_; refine Rg.front 8 ?_; refine Rg.front 8 ?_; refine Rg.front 8 ?_; refine Rg.front 8 ?_; refine Rg.front 8 ?_; refine Rg.front 8 ?_; refine Rg.front 8 ?_; refine Rg.front 8 ?_; refine Rg.front 9 ?_)
      refine rg_call rfl (LookC_bg b S c B _ hc hok (by omega)) ?_
      rintro _ D ⟨la, lc, kn, rfl, hE⟩
      refine ⟨.inl rfl, Rg.ent hE ?_⟩
      unfold lookL
      repeat (first|refine zA rfl ?_|refine zG rfl ?_|refine zI rfl rfl ?_|refine zO rfl rfl ?_|refine zQ ?_|refine zW fun bl=>?_)
      rename_i bk
      refine rg_start_s ?_
      repeat (first|refine zE rfl ?_|refine zF rfl ?_|refine zN rfl rfl ?_|refine zQ ?_|refine zR ?_|refine yD ?_)
      (refine Ex.front 2 ?_; refine Ex.front 11 ?_; refine Ex.front 11 ?_; refine Ex.front 11 ?_; refine Ex.front 11 ?_; refine Ex.front 11 ?_; refine Ex.front 11 ?_; refine Ex.front 11 ?_; refine Ex.front 11 ?_; refine Ex.front 11 ?_; refine Ex.front 11 ?_; refine Ex.front 11 ?_)
      refine Ex.ent (Ent.drop (Ent.drop (Ent.refl _))) ?_
      refine Ex.sup (J ⟨_, _, ⟨_, _, _, _, _, _, _⟩⟩ ⟨?_, (Int.le_refl 0)⟩) ?_
      · exact ltB (nrecvB (ownC_ok hok c)) (by omega)
      exact ⟨rfl, rfl, rfl, rfl, trivial⟩
  intro x ⟨hx, ha⟩
  dsimp only [kwL]
  repeat (first|refine zA rfl ?_|refine zC rfl ?_|refine zD rfl ?_|refine zF rfl ?_|refine zH rfl ?_|refine zT (by decide+kernel) (by decide+kernel) ?_)
  (refine Rg.front 8 ?_; refine Rg.front 8 ?_; refine Rg.front 8 ?_; refine Rg.front 8 ?_; refine Rg.front 8 ?_; refine Rg.front 8 ?_; refine Rg.front 8 ?_; refine Rg.front 8 ?_; refine Rg.front 8 ?_; refine Rg.front 9 ?_)
  refine rg_callE rfl (Do_bg b S c x B _ hok (by omega) hx) ?_
  refine ⟨.inr (by (repeat' first | exact trivial | refine ⟨.inr ⟨_, _, _, _, Find.mem, rfl⟩, ?_⟩ | refine ⟨.inr ⟨_, _, _, _, Find.mem, inferInstance⟩, ?_⟩ | refine ⟨.inr ⟨_, Find.mem⟩, ?_⟩ | refine ⟨.inl (by decide +kernel), ?_⟩)), ?_⟩
  repeat (first|refine zA rfl ?_|refine zB rfl rfl rfl ?_|refine zG rfl ?_|refine zI rfl rfl ?_|refine zQ ?_|refine zR ?_|refine zS ?_)
  refine ex_cond_split rfl (fun g => ?_) (fun g => ?_)
  · have he : (bgDo S c x).2.2 ≠ 0 := by simpa using g
    obtain ⟨e1, e2⟩ := do_err c x he
    rw [e1, e2]
    repeat refine zR ?_
    (refine Ex.front 0 ?_; refine Ex.front 9 ?_; refine Ex.front 9 ?_; refine Ex.front 9 ?_; refine Ex.front 9 ?_; refine Ex.front 9 ?_; refine Ex.front 9 ?_; refine Ex.front 9 ?_; refine Ex.front 9 ?_; refine Ex.front 9 ?_)
    (refine rg_start_p [0, 1, 2, 3, 5, 4, 6, 7, 8] (by decide +kernel) (by decide +kernel) (by simp only [permL, List.getElem?_cons_succ, List.getElem?_cons_zero]; rfl) ?_)
    repeat (first|refine zA rfl ?_|refine zB rfl rfl rfl ?_|refine zH rfl ?_)
    (refine Rg.front 1 ?_; refine Rg.front 1 ?_; refine Rg.front 9 ?_; refine Rg.front 9 ?_; refine Rg.front 9 ?_; refine Rg.front 9 ?_; refine Rg.front 9 ?_; refine Rg.front 9 ?_; refine Rg.front 9 ?_; refine Rg.front 9 ?_)
    refine rg_callE rfl (CallsX.ent (EntR.e kw_fold) (total_ok w S r0 r1 B _ k (by omega))) ?_
    refine ⟨.inr (by (repeat' first | exact trivial | refine ⟨.inr ⟨_, _, _, _, Find.mem, rfl⟩, ?_⟩ | refine ⟨.inr ⟨_, _, _, _, Find.mem, inferInstance⟩, ?_⟩ | refine ⟨.inr ⟨_, Find.mem⟩, ?_⟩ | refine ⟨.inl (by decide +kernel), ?_⟩)), ?_⟩
    refine rg_eqArr2 rfl rfl rfl ?_
    repeat (first|refine zG rfl ?_|refine zK rfl rfl ?_|refine zQ ?_)
    (refine Ex.front 0 ?_; refine Ex.front 2 ?_; refine Ex.front 2 ?_)
    exact ex_rete ret Try.func19 rfl (Ent.drop (Ent.drop (Ent.refl _))) ⟨S, r0, r1, by simp; rfl, ⟨hok.mono (Nat.le_succ B), k.link⟩, Ent.refl _⟩
  · have he : (bgDo S c x).2.2 = 0 := by simpa using g
    obtain ⟨e1, e2⟩ := do_link k (by omega) c hc x hx ha he
    repeat (first|refine zA rfl ?_|refine zH rfl ?_|refine zR ?_|refine zS ?_|refine yB ?_)
    (refine Rg.front 2 ?_; refine Rg.front 2 ?_; refine Rg.front 2 ?_; refine Rg.front 9 ?_; refine Rg.front 9 ?_; refine Rg.front 9 ?_; refine Rg.front 9 ?_; refine Rg.front 9 ?_; refine Rg.front 9 ?_; refine Rg.front 9 ?_)
    refine rg_callE rfl (CallsX.ent (EntR.e kw_fold) (took_ok w (bgDo S c x).1 r0 r1 c (bgDo S c x).2.1 x (B + 1) _ e2.ok (by omega) hc (by omega) e1)) ?_
    refine ⟨.inl rfl, ?_⟩
    repeat (first|refine zG rfl ?_|refine zQ ?_)
    (refine Ex.front 0 ?_; refine Ex.front 2 ?_; refine Ex.front 2 ?_)
    exact ex_rete ret Try.func19 rfl (Ent.drop (Ent.drop (Ent.refl _))) ⟨_, _, _, rfl, e2, Ent.refl _⟩

end Go.Br
