/-
  Lemmas towards the law, proved without conditions of their own: Contract of New of package bridge; Contracts of package bridge over the abstract bridge; THE REFERENCE OF THE STATEMENTS: how its parts lie in memory; find, due; THE REFERENCE: the chain in memory; credit, gone, commit; THE REFERENCE: gone, commit.
-/
import Derived.Test.YtedaknlacigbhaaPk19
import Derived.Test.YtedaknlacigbhaaPk09
namespace Go.Lx
open Go
section
variable {P : Program} {X : Tgt} {b : Base} {n : Nat} {dr : Bool} {ops : Array Oper} {lo : Nat} {ex : List Nat} {fl : Floats} {E : Env} {rem : List Oper} {k : List Item} {cs : List Frame} {Γ : List Ch}
variable {d : Nat} {T : TypeId} {pos : String} {af : Array Edge} {gd : Option (Nat × Bool)}

/-- 'a[i]' of an array that is a value. -/
theorem rg_indexAgg {t len el : Nat} {x y : Operand} {vs : List Value} {v : Value} {kk : IntKind} {i : Int} [u : Under P t (.array len el)] [s : Scalar P el] [c : CellsOf P el 1] (hx : Env.val E x = some (.agg ⟨vs⟩)) (hy : Env.val E y = some (.int kk i))
    (hi : 0 ≤ i ∧ i < len) (hv : vs[i.toNat]? = some v) (e : Rg P X b n dr ops (lo + 1) ex fl ((d, v) :: E) rem k cs Γ)
    (hdn : d < n := by decide) (hex : NotYet ex lo := trivial) (hg : GuardOK ops ⟨some d, .index t x y, T, pos, af, gd⟩ E := by first | exact trivial | exact ⟨_, rfl, rfl⟩) :
    Rg P X b n dr ops lo ex fl E (⟨some d, .index t x y, T, pos, af, gd⟩ :: rem) k cs Γ :=
  rg_pure rfl hdn hex rfl hg (fun _ ρ h hρ _ => by
    have h1 := hρ x (by simp [Op.operands]) _ hx
    have h2 := hρ y (by simp [Op.operands]) _ hy
    obtain ⟨ci, c1, c2⟩ := c.size
    simp only [execOp, wpE_bind', h1, h2, Instr.index, asIntOf, wpE_pure, wpE_underlying u.eq, hi.1, hi.2, and_self, if_true, wpE_sizeOf c1, c2]
    refine wpE_part (v := v) (by simpa using hv) ?_
    exact ⟨rfl, rfl⟩) e
end
end Go.Lx
namespace Go.Br
open Go Go.Lx Go.Proofs
open Go.Lx renaming rg_move → zA, rg_int → zB, rg_nilCheck → zC, rg_fieldAddr0 → zD, rg_fieldAddr → zE, rg_load → zF, rg_assign → zG, rg_loadAgg → zH, rg_extract → zI, rg_not → zJ, rg_pick → zK, rg_off → zL, rg_offU → zM, rg_store → zN, rg_storeAgg → zO, rg_convInt → zP, rg_done → zQ, ex_seq → zR, rg_start_s → zS, rg_start_d → zT, ex_cond_true → zU, ex_cond_false → zV, rg_alloc → zW, rg_boxAgg → zX, rg_build → zY, rg_lenSl → zZ, rg_lenMap → yA, ex_skip → yB, ex_block → yC, ex_inBlock → yD, ex_exit → yE, rg_caseG → yZ
set_option maxRecDepth 100000

theorem newCn_heads (n co : Int) : (newCn n co).heads = [(newCn n co).hd] := rfl
abbrev hd0 : Hd := { height := 0, time := 0, opn := true, nrecv := 1, packets := [], answers := [] }

set_option maxHeartbeats 4000000 in
theorem bNew_ok (co : Int) (Γ : List Ch) (hc : 0 ≤ co ∧ co ≤ 1152921504606846976) :
    CallsX Try.prog 26 #[.int .u64 co] Γ
      (fun v Δ => ∃ b c0 c1, v = .tuple #[ptrV b, .int .i64 0] ∧ Δ = brL b c0 c1 0 (newCn 0 co) (newCn 1 co) hd0 hd0 Γ) := by
  refine calls_of_body (args := [.int .u64 co]) Try.func26 rfl Try.ntmps26 fun X cs ret => ?_
  repeat (first|refine zA rfl ?_|refine zB rfl rfl rfl ?_|refine zG rfl ?_|refine zQ ?_|refine zR ?_|refine zS ?_)
  refine ex_cond_split rfl (fun h1 => ?_) (fun _ => ?_)
  · exact absurd (of_decide_eq_true h1) (by omega)
  repeat (first|refine zA rfl ?_|refine zG rfl ?_|refine zQ ?_|refine zR ?_|refine zS ?_|refine zX rfl fun bl=>?_|refine zY rfl ?_|refine yB ?_|refine yC ?_)
  refine ex_loop ?_
  repeat (first|refine zA rfl ?_|refine zB rfl rfl rfl ?_|refine zG rfl ?_|refine zQ ?_|refine zR ?_|refine zS ?_|refine zU rfl ?_|refine yB ?_|refine yC ?_)
  (refine rg_start_p [0, 1, 2, 3, 5, 6, 4, 7, 8] (by decide +kernel) (by decide +kernel) (by simp only [permL, List.getElem?_cons_succ, List.getElem?_cons_zero]; rfl) ?_)
  repeat (first|refine zA rfl ?_|refine zC rfl ?_|refine zD rfl ?_)
  refine rg_call rfl (new_ok 0 co _ hc.1) ?_
  rintro _ _ ⟨c0, rfl, rfl⟩
  refine ⟨.inr (by (repeat' first | exact trivial | refine ⟨.inr ⟨_, _, _, _, Find.mem, rfl⟩, ?_⟩ | refine ⟨.inr ⟨_, _, _, _, Find.mem, inferInstance⟩, ?_⟩ | refine ⟨.inr ⟨_, Find.mem⟩, ?_⟩ | refine ⟨.inl (by decide +kernel), ?_⟩)), ?_⟩
  skip
  refine rg_indexArr rfl rfl (by decide) ?_
  rw [show (0 + Int.toNat 0 * 1 : Nat) = 0 from rfl]
  repeat (first|refine zA rfl ?_|refine zB rfl rfl rfl ?_|refine zN rfl rfl ?_|refine zQ ?_|refine zS ?_|refine yD ?_)
  rw [show IntKind.wrap .i64 (0 + 1) = 1 from by decide]
  skip
  refine ex_inLoop ?_
  repeat (first|refine zA rfl ?_|refine zB rfl rfl rfl ?_|refine zG rfl ?_|refine zQ ?_|refine zR ?_|refine zS ?_|refine zU rfl ?_|refine yB ?_|refine yC ?_)
  (refine rg_start_p [0, 1, 2, 3, 5, 6, 4, 7, 8] (by decide +kernel) (by decide +kernel) (by simp only [permL, List.getElem?_cons_succ, List.getElem?_cons_zero]; rfl) ?_)
  repeat (first|refine zA rfl ?_|refine zC rfl ?_|refine zD rfl ?_)
  refine rg_call rfl (new_ok 1 co _ hc.1) ?_
  rintro _ _ ⟨c1, rfl, rfl⟩
  refine ⟨.inr (by (repeat' first | exact trivial | refine ⟨.inr ⟨_, _, _, _, Find.mem, rfl⟩, ?_⟩ | refine ⟨.inr ⟨_, _, _, _, Find.mem, inferInstance⟩, ?_⟩ | refine ⟨.inr ⟨_, Find.mem⟩, ?_⟩ | refine ⟨.inl (by decide +kernel), ?_⟩)), ?_⟩
  skip
  refine rg_indexArr rfl rfl (by decide) ?_
  rw [show (0 + Int.toNat 1 * 1 : Nat) = 1 from rfl]
  repeat (first|refine zA rfl ?_|refine zB rfl rfl rfl ?_|refine zN rfl rfl ?_|refine zQ ?_|refine zS ?_|refine yD ?_)
  rw [show IntKind.wrap .i64 (1 + 1) = 2 from by decide]
  skip
  refine ex_inLoop ?_
  repeat (first|refine zA rfl ?_|refine zB rfl rfl rfl ?_|refine zC rfl ?_|refine zD rfl ?_|refine zH rfl ?_|refine zQ ?_|refine zR ?_|refine zS ?_|refine zV rfl ?_|refine yC ?_|refine yE rfl ?_)
  refine ex_loop ?_
  repeat (first|refine zA rfl ?_|refine zB rfl rfl rfl ?_|refine zQ ?_|refine zR ?_|refine zS ?_|refine zU rfl ?_|refine yB ?_|refine yC ?_)
  refine rg_indexAgg (v := ptrV c0) rfl rfl (by decide) rfl ?_
  repeat (first|refine zA rfl ?_|refine zB rfl rfl rfl ?_|refine zC rfl ?_|refine zD rfl ?_|refine zG rfl ?_|refine zQ ?_|refine zS ?_)
  refine rg_indexArr rfl rfl (by decide) ?_
  repeat refine zF rfl ?_
  refine rg_call rfl (meet_ok c0 c1 (newCn 0 co) (newCn 1 co) (newCn 0 co).hd (newCn 1 co).hd (newCn 1 co).hd [] _ (newCn_heads 1 co)) ?_
  rintro _ _ ⟨rfl, rfl⟩
  refine ⟨.inl rfl, ?_⟩
  repeat (first|refine zA rfl ?_|refine zB rfl rfl rfl ?_|refine zQ ?_|refine zS ?_|refine yD ?_)
  rw [show IntKind.wrap .i64 (0 + 1) = 1 from by decide]
  refine ex_inLoop ?_
  repeat (first|refine zA rfl ?_|refine zB rfl rfl rfl ?_|refine zQ ?_|refine zR ?_|refine zS ?_|refine zU rfl ?_|refine yB ?_|refine yC ?_)
  refine rg_indexAgg (v := ptrV c1) rfl rfl (by decide) rfl ?_
  repeat (first|refine zA rfl ?_|refine zB rfl rfl rfl ?_|refine zC rfl ?_|refine zD rfl ?_|refine zG rfl ?_|refine zQ ?_|refine zS ?_)
  refine rg_indexArr rfl rfl (by decide) ?_
  repeat refine zF rfl ?_
  (refine Rg.front 1 ?_)
  refine rg_call rfl (meet_ok c1 c0 (newCn 1 co) (newCn 0 co) (newCn 1 co).hd (newCn 1 co).hd (newCn 0 co).hd [] _ (newCn_heads 0 co)) ?_
  rintro _ _ ⟨rfl, rfl⟩
  refine ⟨.inl rfl, ?_⟩
  repeat (first|refine zA rfl ?_|refine zB rfl rfl rfl ?_|refine zQ ?_|refine zS ?_|refine yD ?_)
  rw [show IntKind.wrap .i64 (1 + 1) = 2 from by decide]
  refine ex_inLoop ?_
  repeat (first|refine zA rfl ?_|refine zB rfl rfl rfl ?_|refine zG rfl ?_|refine zQ ?_|refine zR ?_|refine zS ?_|refine zV rfl ?_|refine yE rfl ?_)
  (refine Ex.front 1 ?_; refine Ex.front 1 ?_; refine Ex.front 2 ?_)
  exact ex_retc ret Try.func26 rfl ⟨bl, c0, c1, rfl, rfl⟩

theorem bNewX_ok (co : Int) (Γ : List Ch) (hc : 1152921504606846976 < co) :
    CallsX Try.prog 26 #[.int .u64 co] Γ (fun v Δ => v = .tuple #[.pointer none, .int .i64 5] ∧ Δ = Γ) := by
  refine calls_of_body (args := [.int .u64 co]) Try.func26 rfl Try.ntmps26 fun X cs ret => ?_
  repeat (first|refine zA rfl ?_|refine zB rfl rfl rfl ?_|refine zG rfl ?_|refine zQ ?_|refine zR ?_|refine zS ?_)
  refine ex_cond_split rfl (fun _ => ?_) (fun h1 => ?_)
  · repeat (first|refine zG rfl ?_|refine zQ ?_|refine zR ?_|refine zS ?_)
    exact ex_retc ret Try.func26 rfl ⟨rfl, rfl⟩
  · exact absurd (of_decide_eq_false h1) (by omega)

end Go.Br

namespace Go.Br
open Go Go.Lx Go.Proofs
set_option maxRecDepth 100000

/-- A bridge of the program at a block. -/
def BgAt (b : Nat) (S : Bg) : LH → Prop := fun h => ∃ z : Nat × Nat, Star (brL b z.1 z.2 S.tk S.s0 S.s1 (knOf S.s0 S.s1) (knOf S.s1 S.s0) []) h

theorem bg_open {b : Nat} {S : Bg} {Γ : List Ch} : ∀ h, Star (.pr (BgAt b S) :: Γ) h → ∃ z : Nat × Nat, True ∧ Star (brL b z.1 z.2 S.tk S.s0 S.s1 (knOf S.s0 S.s1) (knOf S.s1 S.s0) Γ) h := fun h st => by
  obtain ⟨z, st⟩ := Star.ex.1 st
  exact ⟨z, trivial, Star.open_.1 st⟩

theorem bg_fold {b : Nat} {S : Bg} {Γ : List Ch} (c0 c1 : Nat) {tk : Int} {s0 s1 : Cn} {k0 k1 : Hd} (h1 : tk = S.tk) (h2 : s0 = S.s0) (h3 : s1 = S.s1) (h4 : k0 = knOf S.s0 S.s1) (h5 : k1 = knOf S.s1 S.s0) : Ent (brL b c0 c1 tk s0 s1 k0 k1 Γ) (.pr (BgAt b S) :: Γ) := by
  subst h1; subst h2; subst h3; subst h4; subst h5
  exact .star fun h st => Star.ex.2 ⟨(c0, c1), Star.open_.2 st⟩

theorem stepKn_eq {B : Nat} {s o : Cn} (ok : Ok B o) (h : s.known < o.heads.length) (x : Stp) (hx : 0 ≤ x.n) : stepKn s x (knOf s o) o.heads = knOf (step s x (knOf s o) o.heads.length).1 o := by
  obtain ⟨_, _, f3⟩ := step_frame s x (knOf s o) o.heads.length
  rw [show knOf (step s x (knOf s o) o.heads.length).1 o = o.heads.getD (step s x (knOf s o) o.heads.length).1.known default from rfl, f3]
  unfold stepKn
  split
  · split
    · rfl
    · have hl : x.n.toNat < o.heads.length := by omega
      rw [List.getD_eq_getElem?_getD, List.getD_eq_getElem?_getD, List.getElem?_eq_getElem hl]; rfl
  · rfl

theorem heads_len {B : Nat} {s : Cn} (ok : Ok B s) (hB : B < 100000000) : s.heads.length < 1000000000 := by
  have := ok.len; have := ok.hd.height; omega

theorem wrap_tk {t : Int} (h : 0 ≤ t ∧ t < 1000000000) : IntKind.wrap .i64 (t + 1) = t + 1 := wIn (by omega) (by omega)

theorem Do_bg (b : Nat) (S : Bg) (c : Int) (x : Stp) (B : Nat) (Γ : List Ch) (ok : BgOk B S) (hB : B < 100000000) (hx : 0 ≤ x.n ∧ x.n < 18446744073709551616) :
    CallsX Try.prog 22 #[ptrV b, .int .i64 c, stV x] (.pr (BgAt b S) :: Γ)
      (fun v Δ => v = .tuple #[.int .u64 (bgDo S c x).2.1, .int .i64 (bgDo S c x).2.2] ∧ Ent Δ (.pr (BgAt b (bgDo S c x).1) :: Γ)) := by
  have htk := ok.tk
  refine CallsX.open_ bg_open fun z _ => ?_
  obtain ⟨c0, c1⟩ := z
  dsimp only
  by_cases h0 : c = 0
  · subst h0
    obtain ⟨a1, a2⟩ := knOf_ok ok.ok1 ok.k0
    refine (Do0_ok b c0 c1 S.tk S.s0 S.s1 _ _ x B Γ ok.ok0 ok.ok1 a1 hB hx a2).mono ?_
    rintro v Δ ⟨rfl, rfl⟩
    refine ⟨rfl, bg_fold c0 c1 ?_ rfl rfl ?_ ?_⟩
    · show _ = if _ = 0 then S.tk + 1 else S.tk
      rw [wrap_tk (by omega)]; rfl
    · exact stepKn_eq ok.ok1 ok.k0 x hx.1
    · exact ((knOf_other ok x _ _).1).symm
  by_cases h1 : c = 1
  · subst h1
    obtain ⟨a1, a2⟩ := knOf_ok ok.ok0 ok.k1
    refine (Do1_ok b c0 c1 S.tk S.s0 S.s1 _ _ x B Γ ok.ok1 ok.ok0 a1 hB hx a2).mono ?_
    rintro v Δ ⟨rfl, rfl⟩
    refine ⟨rfl, bg_fold c0 c1 ?_ rfl rfl ?_ ?_⟩
    · show _ = if _ = 0 then S.tk + 1 else S.tk
      rw [wrap_tk (by omega)]; rfl
    · exact ((knOf_other ok x _ _).2).symm
    · exact stepKn_eq ok.ok0 ok.k1 x hx.1
  · have e : bgDo S c x = (S, 0, 1) := by unfold bgDo bgStep; rw [if_neg h0, if_neg h1]
    rw [e]
    refine (DoX_ok b c x _ h0 h1).mono ?_
    rintro v Δ ⟨rfl, rfl⟩
    exact ⟨rfl, bg_fold c0 c1 rfl rfl rfl rfl rfl⟩

/-- What Balance answers. -/
def bgBal (S : Bg) (c u co : Int) : Int := if c = 0 then S.s0.has u co else if c = 1 then S.s1.has u co else 0

theorem Balance_bg (b : Nat) (S : Bg) (c u co : Int) (B : Nat) (Γ : List Ch) (ok : BgOk B S) (hB : B < 100000000) :
    CallsX Try.prog 30 #[ptrV b, .int .i64 c, .int .i64 u, .int .i64 co] (.pr (BgAt b S) :: Γ)
      (fun v Δ => v = .int .u64 (bgBal S c u co) ∧ Ent Δ (.pr (BgAt b S) :: Γ)) := by
  refine CallsX.open_ bg_open fun z _ => ?_
  obtain ⟨c0, c1⟩ := z
  dsimp only
  by_cases h0 : c = 0
  · subst h0
    refine (Balance0_ok b c0 c1 S.tk S.s0 S.s1 _ _ u co Γ (heads_len ok.ok1 hB)).mono ?_
    rintro v Δ ⟨rfl, rfl⟩
    exact ⟨rfl, bg_fold c0 c1 rfl rfl rfl rfl rfl⟩
  by_cases h1 : c = 1
  · subst h1
    refine (Balance1_ok b c0 c1 S.tk S.s0 S.s1 _ _ u co Γ (heads_len ok.ok0 hB)).mono ?_
    rintro v Δ ⟨rfl, rfl⟩
    exact ⟨rfl, bg_fold c0 c1 rfl rfl rfl rfl rfl⟩
  · have e : bgBal S c u co = 0 := by unfold bgBal; rw [if_neg h0, if_neg h1]
    rw [e]
    refine (BalanceX_ok b c u co _ h0 h1).mono ?_
    rintro v Δ ⟨rfl, rfl⟩
    exact ⟨rfl, bg_fold c0 c1 rfl rfl rfl rfl rfl⟩

theorem Look0_bg (b : Nat) (S : Bg) (B : Nat) (Γ : List Ch) (ok : BgOk B S) (hB : B < 100000000) :
    CallsX Try.prog 25 #[ptrV b, .int .i64 0] (.pr (BgAt b S) :: Γ)
      (fun v Δ => ∃ a cap, v = .tuple #[.agg ⟨lookL S.s0 (knOf S.s0 S.s1) (.slice a S.s0.hd.packets.length cap)⟩, .int .i64 0] ∧
        Ent Δ (.pr (SlV 36 1 (.slice a S.s0.hd.packets.length cap) (S.s0.hd.packets.map qV) S.s0.hd.packets.length) :: .pr (BgAt b S) :: Γ)) := by
  refine CallsX.open_ bg_open fun z _ => ?_
  obtain ⟨c0, c1⟩ := z
  dsimp only
  refine (Look0_ok b c0 c1 S.tk S.s0 S.s1 _ _ B Γ ok.ok0 hB (heads_len ok.ok1 hB)).mono ?_
  rintro v Δ ⟨b', a, cap, rfl, rfl⟩
  exact ⟨a, cap, rfl, Ent.drop (Ent.cons (bg_fold c0 c1 rfl rfl rfl rfl rfl))⟩

theorem Look1_bg (b : Nat) (S : Bg) (B : Nat) (Γ : List Ch) (ok : BgOk B S) (hB : B < 100000000) :
    CallsX Try.prog 25 #[ptrV b, .int .i64 1] (.pr (BgAt b S) :: Γ)
      (fun v Δ => ∃ a cap, v = .tuple #[.agg ⟨lookL S.s1 (knOf S.s1 S.s0) (.slice a S.s1.hd.packets.length cap)⟩, .int .i64 0] ∧
        Ent Δ (.pr (SlV 36 1 (.slice a S.s1.hd.packets.length cap) (S.s1.hd.packets.map qV) S.s1.hd.packets.length) :: .pr (BgAt b S) :: Γ)) := by
  refine CallsX.open_ bg_open fun z _ => ?_
  obtain ⟨c0, c1⟩ := z
  dsimp only
  refine (Look1_ok b c0 c1 S.tk S.s0 S.s1 _ _ B Γ ok.ok1 hB (heads_len ok.ok0 hB)).mono ?_
  rintro v Δ ⟨b', a, cap, rfl, rfl⟩
  exact ⟨a, cap, rfl, Ent.drop (Ent.cons (bg_fold c0 c1 rfl rfl rfl rfl rfl))⟩

theorem LookX_bg (b : Nat) (c : Int) (Γ : List Ch) (h0 : c ≠ 0) (h1 : c ≠ 1) :
    CallsX Try.prog 25 #[ptrV b, .int .i64 c] Γ (fun v Δ => v = .tuple #[.agg ⟨lookZ⟩, .int .i64 1] ∧ Ent Δ Γ) :=
  (LookX_ok b c Γ h0 h1).mono (by rintro v Δ ⟨b', rfl, rfl⟩; exact ⟨rfl, Ent.drop (Ent.refl _)⟩)

theorem Head_bg (b : Nat) (S : Bg) (c h : Int) (B : Nat) (Γ : List Ch) (ok : BgOk B S) (hB : B < 100000000) (hh : 0 ≤ h) :
    CallsX Try.prog 31 #[ptrV b, .int .i64 c, .int .u64 h] (.pr (BgAt b S) :: Γ)
      (fun v Δ => v = .tuple #[.agg ⟨shL (headRes S.s0 S.s1 c h).1⟩, .int .i64 (headRes S.s0 S.s1 c h).2] ∧ Ent Δ (.pr (BgAt b S) :: Γ)) := by
  refine CallsX.open_ bg_open fun z _ => ?_
  obtain ⟨c0, c1⟩ := z
  dsimp only
  refine (Head_ok b c0 c1 S.tk S.s0 S.s1 _ _ c h Γ (heads_len ok.ok0 hB) (heads_len ok.ok1 hB) hh).mono ?_
  rintro v Δ ⟨b', rfl, rfl⟩
  exact ⟨rfl, Ent.drop (bg_fold c0 c1 rfl rfl rfl rfl rfl)⟩

theorem Same_bg (b : Nat) (S : Bg) (c h d g : Int) (B : Nat) (Γ : List Ch) (ok : BgOk B S) (hB : B < 100000000) (hh : 0 ≤ h) (hg : 0 ≤ g) :
    CallsX Try.prog 32 #[ptrV b, .int .i64 c, .int .u64 h, .int .i64 d, .int .u64 g] (.pr (BgAt b S) :: Γ)
      (fun v Δ => v = .bool (sameRes S.s0 S.s1 c h d g) ∧ Ent Δ (.pr (BgAt b S) :: Γ)) := by
  refine CallsX.open_ bg_open fun z _ => ?_
  obtain ⟨c0, c1⟩ := z
  dsimp only
  refine (Same_ok b c0 c1 S.tk S.s0 S.s1 _ _ c h d g Γ (heads_len ok.ok0 hB) (heads_len ok.ok1 hB) hh hg).mono ?_
  rintro v Δ ⟨rfl, rfl⟩
  exact ⟨rfl, bg_fold c0 c1 rfl rfl rfl rfl rfl⟩

theorem Taken_bg (b : Nat) (S : Bg) (B : Nat) (Γ : List Ch) (ok : BgOk B S) (hB : B < 100000000) :
    CallsX Try.prog 35 #[ptrV b] (.pr (BgAt b S) :: Γ) (fun v Δ => v = .int .i64 S.tk ∧ Ent Δ (.pr (BgAt b S) :: Γ)) := by
  have htk := ok.tk
  refine CallsX.open_ bg_open fun z _ => ?_
  obtain ⟨c0, c1⟩ := z
  dsimp only
  refine (Taken_ok b c0 c1 S.tk _ (by omega)).mono ?_
  rintro v Δ ⟨rfl, rfl⟩
  exact ⟨rfl, bg_fold c0 c1 rfl rfl rfl rfl rfl⟩

abbrev bgNew (co : Int) : Bg := ⟨newCn 0 co, newCn 1 co, 0⟩

theorem New_bg (co : Int) (Γ : List Ch) (hc : 0 ≤ co ∧ co ≤ 1152921504606846976) :
    CallsX Try.prog 26 #[.int .u64 co] Γ (fun v Δ => ∃ b, v = .tuple #[ptrV b, .int .i64 0] ∧ Ent Δ (.pr (BgAt b (bgNew co)) :: Γ)) :=
  (bNew_ok co Γ hc).mono (by rintro v Δ ⟨b, c0, c1, rfl, rfl⟩; exact ⟨b, rfl, bg_fold c0 c1 rfl rfl rfl rfl rfl⟩)

end Go.Br

namespace Go.Br
open Go Go.Lx Go.Proofs
open Go.Lx renaming rg_move → zA, rg_int → zB, rg_nilCheck → zC, rg_fieldAddr0 → zD, rg_fieldAddr → zE, rg_load → zF, rg_assign → zG, rg_loadAgg → zH, rg_extract → zI, rg_not → zJ, rg_pick → zK, rg_off → zL, rg_offU → zM, rg_store → zN, rg_storeAgg → zO, rg_convInt → zP, rg_done → zQ, ex_seq → zR, rg_start_s → zS, rg_start_d → zT, ex_cond_true → zU, ex_cond_false → zV, rg_alloc → zW, rg_boxAgg → zX, rg_build → zY, rg_lenSl → zZ, rg_lenMap → yA, ex_skip → yB, ex_block → yC, ex_inBlock → yD, ex_exit → yE, rg_caseG → yZ
set_option maxRecDepth 100000

/-- A slice from the beginning of its array, owned or to be read alone. -/
def SlP (p : Bool) (el m : Nat) (s : Value) (xs : List Value) (len : Nat) : LH → Prop := fun h =>
  (s = .slice none 0 0 ∧ xs = [] ∧ len = 0) ∨
  ∃ bl cap slack, s = .slice (some ⟨bl, 0, none⟩) len cap ∧ len ≤ cap ∧ xs.length = len * m ∧ slack.length = (cap - len) * m ∧ h bl = some (p, .cells ⟨xs ++ slack⟩ el (0, 0))

theorem SlP.one {p : Bool} {el m : Nat} {s : Value} {xs : List Value} {len : Nat} {h : LH} (v : SlP p el m s xs len h) : oneC s = true := by
  rcases v with ⟨h1, _⟩ | ⟨_, _, _, h1, _⟩ <;> (subst h1; rfl)

theorem star_slp {p : Bool} {el m : Nat} {s : Value} {xs : List Value} {len : Nat} {Γ : List Ch} {h : LH} :
    Star (.pr (SlP p el m s xs len) :: Γ) h ↔ (s = .slice none 0 0 ∧ xs = [] ∧ len = 0 ∧ Star (.pr (fun _ => True) :: Γ) h) ∨
      ∃ bl cap slack, s = .slice (some ⟨bl, 0, none⟩) len cap ∧ len ≤ cap ∧ xs.length = len * m ∧ slack.length = (cap - len) * m ∧ Star (.pt bl p (.cells ⟨xs ++ slack⟩ el (0, 0)) :: Γ) h := by
  constructor
  · rintro ⟨h1, h2, j, v, st⟩
    rcases v with ⟨a, b, c⟩ | ⟨bl, cap, slack, a, b, c, d, e⟩
    · exact .inl ⟨a, b, c, h1, h2, j, trivial, st⟩
    · exact .inr ⟨bl, cap, slack, a, b, c, d, h1, h2, j, e, st⟩
  · rintro (⟨a, b, c, h1, h2, j, _, st⟩ | ⟨bl, cap, slack, a, b, c, d, h1, h2, j, e, st⟩)
    · exact ⟨h1, h2, j, .inl ⟨a, b, c⟩, st⟩
    · exact ⟨h1, h2, j, .inr ⟨bl, cap, slack, a, b, c, d, e⟩, st⟩

theorem slp_none {Γ : List Ch} {h : LH} (st : Star Γ h) : Star (.pr (fun _ => True) :: Γ) h := ⟨fun _ => none, h, fun _ => .inl ⟨rfl, rfl⟩, trivial, st⟩

theorem ex_slp {P : Program} {X : Tgt} {b : Base} {n : Nat} {E : Env} {k : List Item} {cs : List Frame} {Γ : List Ch} {p : Bool} {el m : Nat} {s : Value} {xs : List Value} {len : Nat}
    (e0 : s = .slice none 0 0 → xs = [] → len = 0 → Ex P X b n E k cs Γ)
    (e1 : ∀ bl cap slack, s = .slice (some ⟨bl, 0, none⟩) len cap → (len ≤ cap ∧ xs.length = len * m ∧ slack.length = (cap - len) * m) → Ex P X b n E k cs (.pt bl p (.cells ⟨xs ++ slack⟩ el (0, 0)) :: Γ)) : Ex P X b n E k cs (.pr (SlP p el m s xs len) :: Γ) := fun tmps h t st => by
  rcases star_slp.1 st with ⟨h1, h2, h3, st'⟩ | ⟨bl, cap, slack, a, b, c, d, st'⟩
  · exact Ex.drop (c := .pr (fun _ => True)) (e0 h1 h2 h3) tmps h t st'
  · exact e1 bl cap slack a ⟨b, c, d⟩ tmps h t st'

theorem slp_fold {p : Bool} {el m : Nat} {xs : List Value} {len : Nat} {Γ : List Ch} (b cap : Nat) (slack : List Value) (h : len ≤ cap ∧ xs.length = len * m ∧ slack.length = (cap - len) * m) : EntR (.pr (SlP p el m (.slice (some ⟨b, 0, none⟩) len cap) xs len) :: Γ) (.pt b p (.cells ⟨xs ++ slack⟩ el (0, 0)) :: Γ) :=
  .star fun _ st => star_slp.2 (.inr ⟨b, cap, slack, rfl, h.1, h.2.1, h.2.2, st⟩)

/-- What is owned may be kept to be read alone. -/
theorem slp_ro {el m : Nat} {s : Value} {xs : List Value} {len : Nat} {Γ : List Ch} : Ent (.pr (SlV el m s xs len) :: Γ) (.pr (SlP false el m s xs len) :: Γ) := fun h st => by
  rcases (star_slp (p := true)).1 st with ⟨h1, h2, h3, st'⟩ | ⟨bl, cap, slack, a, b, c, d, st'⟩
  · exact ⟨h, .refl h, star_slp.2 (.inl ⟨h1, h2, h3, st'⟩)⟩
  · obtain ⟨h', l, s'⟩ := st'.ro
    exact ⟨h', l, star_slp.2 (.inr ⟨bl, cap, slack, a, b, c, d, s'⟩)⟩

/-! cells one after another -/

theorem flat_len {α : Type} {f : α → List Value} {m : Nat} (hf : ∀ a, (f a).length = m) (l : List α) : (l.flatMap f).length = l.length * m := by
  induction l with
  | nil => simp
  | cons a l ih => simp only [List.flatMap_cons, List.length_append, hf, ih, List.length_cons, Nat.add_mul]; omega

theorem sliceL_flat {α : Type} {f : α → List Value} {m : Nat} (hf : ∀ a, (f a).length = m) (l : List α) (i : Nat) (a : α) (h : l[i]? = some a) (slack : List Value) : SliceL (l.flatMap f ++ slack) (i * m) m (f a) := by
  refine ⟨(l.take i).flatMap f, (l.drop (i + 1)).flatMap f ++ slack, ?_, ?_, hf a⟩
  · have hi : i < l.length := by
      rcases Nat.lt_or_ge i l.length with h' | h'
      · exact h'
      · rw [List.getElem?_eq_none h'] at h; cases h
    have ha : l[i] = a := by rw [List.getElem?_eq_getElem hi] at h; exact Option.some.inj h
    have e : l = l.take i ++ (a :: l.drop (i + 1)) := by rw [← ha, ← List.drop_eq_getElem_cons hi, List.take_append_drop]
    conv => lhs; rw [e]
    simp [List.flatMap_append]
  · rw [flat_len hf, List.length_take, Nat.min_eq_left]
    rcases Nat.lt_or_ge i l.length with h' | h'
    · omega
    · rw [List.getElem?_eq_none h'] at h; cases h

abbrev anC (a : Ans) : List Value := [.int .u64 a.seq, .bool a.good]
abbrev pkFl (l : List Pk) : List Value := l.flatMap pkC
abbrev anFl (l : List Ans) : List Value := l.flatMap anC
theorem pkC_len : ∀ p, (pkC p).length = 7 := fun _ => rfl
theorem anC_len : ∀ a, (anC a).length = 2 := fun _ => rfl

theorem find_get {q : Int} : ∀ {l : List Pk} {i : Nat} {j : Nat} {p : Pk}, find l q i = some (j, p) → i ≤ j ∧ l[j - i]? = some p ∧ j - i < l.length ∧ p.seq = q := by
  intro l
  induction l with
  | nil => intro i j p h; cases h
  | cons x l ih =>
    intro i j p h
    simp only [find] at h
    split at h
    · cases h; exact ⟨Nat.le_refl _, by simp, by simp, by assumption⟩
    · obtain ⟨a, b, c, d⟩ := ih h
      have e : j - i = (j - (i + 1)) + 1 := by omega
      exact ⟨by omega, by rw [e, List.getElem?_cons_succ]; exact b, by rw [e]; simp; omega, d⟩

/-- What find answers. -/
def rfind (l : List Pk) (q : Int) : Int := match find l q 0 with | none => -1 | some (i, _) => i

theorem rwrap {x : Int} (h : -9223372036854775808 ≤ x ∧ x < 9223372036854775808) : IntKind.wrap .i64 x = x := wIn h.1 h.2

set_option maxHeartbeats 1000000 in
theorem rfind_ok (p : Bool) (s : Value) (l : List Pk) (q : Int) (Γ : List Ch) (hl : l.length < 2 ^ 40) :
    CallsX Try.prog 92 #[s, .int .u64 q] (.pr (SlP p 49 7 s (pkFl l) l.length) :: Γ)
      (fun v Δ => v = .int .i64 (rfind l q) ∧ Ent Δ (.pr (SlP p 49 7 s (pkFl l) l.length) :: Γ)) := by
  refine calls_of_body (args := [s, .int .u64 q]) Try.func92 rfl Try.ntmps92 fun X cs ret => ?_
  refine ex_slp (fun h1 h2 h3 => ?_) (fun b0 cap slack h1 hz => ?_)
  · subst h1
    have h0 : l = [] := List.length_eq_zero_iff.1 h3
    subst h0
    repeat (first|refine zA rfl ?_|refine zG rfl ?_|refine zQ ?_|refine zR ?_|refine zS ?_|refine zZ rfl ?_|refine yC ?_)
    refine ex_loop ?_
    repeat (first|refine zB rfl rfl rfl ?_|refine zG rfl ?_|refine zQ ?_|refine zR ?_|refine zS ?_|refine zV rfl ?_|refine yE rfl ?_)
    exact ex_retc ret Try.func92 rfl ⟨rfl, .star fun h st => star_slp.2 (.inl ⟨rfl, rfl, rfl, slp_none st⟩)⟩
  · subst h1
    repeat (first|refine zA rfl ?_|refine zG rfl ?_|refine zQ ?_|refine zR ?_|refine zS ?_|refine zZ rfl ?_|refine yC ?_)
    refine ex_loop ?_
    refine ex_ind (ι := Nat) (fun i => l.length + 1 - i) (fun i => [(9, .int .i64 i), (8, .int .i64 l.length), (7, .slice (some ⟨b0, 0, none⟩) l.length cap), (1, .int .u64 q)]) (fun _ => .pt b0 p (.cells ⟨pkFl l ++ slack⟩ 49 (0, 0)) :: Γ) (fun i => i ≤ l.length ∧ find l q 0 = find (l.drop i) q i) 0 ⟨Nat.zero_le _, rfl⟩ ⟨rfl, rfl, rfl, rfl, trivial⟩ rfl (fun i hi IH => ?_)
    obtain ⟨hi1, hi2⟩ := hi
    repeat (first|refine zB rfl rfl rfl ?_|refine zQ ?_|refine zR ?_|refine zS ?_)
    refine ex_cond_split rfl (fun h1 => ?_) (fun h1 => ?_)
    · have hlt : i < l.length := by have := of_decide_eq_true h1; omega
      repeat (first|refine zA rfl ?_|refine zR ?_|refine zS ?_|refine yB ?_|refine yC ?_)
      refine rg_indexSl rfl rfl ⟨by omega, by omega⟩ ?_
      rw [Int.toNat_natCast, Nat.zero_add (i * 7)]
      haveI := sliceL_flat pkC_len l i l[i] (List.getElem?_eq_getElem hlt) slack
      refine rg_loadAgg rfl ?_
      repeat (first|refine zA rfl ?_|refine zB rfl rfl rfl ?_|refine zD rfl ?_|refine zF rfl ?_|refine zG rfl ?_|refine zO rfl rfl ?_|refine zQ ?_|refine zR ?_|refine zS ?_|refine zW fun bl=>?_)
      rw [List.drop_eq_getElem_cons hlt] at hi2
      simp only [find] at hi2
      refine ex_cond_split rfl (fun h2 => ?_) (fun h2 => ?_)
      · have h2 := of_decide_eq_true h2
        rw [if_pos h2] at hi2
        repeat (first|refine zA rfl ?_|refine zG rfl ?_|refine zQ ?_|refine zR ?_|refine zS ?_)
        refine ex_rete ret Try.func92 rfl (Ent.drop (EntR.e (slp_fold b0 cap slack hz))) ⟨?_, Ent.refl _⟩
        simp only [packV, rfind, hi2]
      · have h2 := of_decide_eq_false h2
        rw [if_neg h2] at hi2
        repeat (first|refine zA rfl ?_|refine zB rfl rfl rfl ?_|refine zQ ?_|refine zS ?_|refine yB ?_|refine yD ?_)
        refine ex_inLoop ?_
        rw [rwrap (by omega)]
        refine Ex.drop ?_
        exact Ex.sup (IH (i + 1) ⟨by omega, hi2⟩ (by omega)) ⟨rfl, rfl, rfl, rfl, trivial⟩
    · have hge : i = l.length := by have := of_decide_eq_false h1; omega
      repeat (first|refine zG rfl ?_|refine zQ ?_|refine zR ?_|refine zS ?_|refine yE rfl ?_)
      refine ex_rete ret Try.func92 rfl (EntR.e (slp_fold b0 cap slack hz)) ⟨?_, Ent.refl _⟩
      subst hge
      rw [List.drop_length] at hi2
      simp only [packV, rfind, hi2, find]

theorem rdue_ok (p : Pk) (h t : Int) (Γ : List Ch) : CallsX Try.prog 93 #[pkV p, .int .u64 h, .int .u64 t] Γ (fun v Δ => v = .bool (due p h t) ∧ Δ = Γ) := by
  refine calls_of_body (args := [pkV p, .int .u64 h, .int .u64 t]) Try.func93 rfl Try.ntmps93 fun X cs ret => ?_
  refine ex_seq (rg_start_s (rg_boxAgg rfl fun bl => ?_))
  repeat' (first|refine zA rfl ?_|refine zB rfl rfl rfl ?_|refine zE rfl ?_|refine zF rfl ?_|refine zG rfl ?_|refine zK rfl rfl ?_|refine zL rfl rfl rfl rfl (by decide) trivial rfl ?_|refine zM rfl rfl rfl rfl (by decide) trivial rfl ?_|refine zQ ?_|refine zR ?_|refine zS ?_|refine yZ rfl rfl (fun hg=>?_) (fun hg=>?_))
  all_goals
    refine ex_rete ret Try.func93 rfl (Ent.drop (Ent.refl Γ)) ⟨?_, rfl⟩
    simp [packV, due, *]

end Go.Br

namespace Go.Br
open Go Go.Lx Go.Proofs
open Go.Lx renaming rg_move → zA, rg_int → zB, rg_nilCheck → zC, rg_fieldAddr0 → zD, rg_fieldAddr → zE, rg_load → zF, rg_assign → zG, rg_loadAgg → zH, rg_extract → zI, rg_not → zJ, rg_pick → zK, rg_off → zL, rg_offU → zM, rg_store → zN, rg_storeAgg → zO, rg_convInt → zP, rg_done → zQ, ex_seq → zR, rg_start_s → zS, rg_start_d → zT, ex_cond_true → zU, ex_cond_false → zV, rg_alloc → zW, rg_boxAgg → zX, rg_build → zY, rg_lenSl → zZ, rg_lenMap → yA, ex_skip → yB, ex_block → yC, ex_inBlock → yD, ex_exit → yE, rg_caseG → yZ
set_option maxRecDepth 100000

abbrev RZ := Hd × Value × Value
abbrev hdC (z : RZ) : List Value := [.int .u64 z.1.height, .int .u64 z.1.time, .bool z.1.opn, .int .u64 z.1.nrecv, z.2.1, z.2.2]
theorem hdC_len : ∀ z, (hdC z).length = 6 := fun _ => rfl

/-- A header's slices, to be read alone. -/
def RHead (z : RZ) : LH → Prop := fun h => SlP false 49 7 z.2.1 (pkFl z.1.packets) z.1.packets.length h ∧ SlP false 186 2 z.2.2 (anFl z.1.answers) z.1.answers.length h

def RHeads (zs : List RZ) : LH → Prop := fun h => ∀ z ∈ zs, RHead z h

theorem slp_more {el m : Nat} {s : Value} {xs : List Value} {len : Nat} {h h' : LH} (l : ∀ b o, h b = some (false, o) → h' b = some (false, o)) (v : SlP false el m s xs len h) : SlP false el m s xs len h' := by
  rcases v with a | ⟨bl, cap, slack, a, b, c, d, e⟩
  · exact .inl a
  · exact .inr ⟨bl, cap, slack, a, b, c, d, l _ _ e⟩

theorem ro_of {h : LH} : ∀ b o, h b = some (false, o) → roPart h b = some (false, o) := fun b o e => by simp [roPart, e]

theorem pers_rhead (z : RZ) : Pers (RHead z) := fun _ ⟨a, b⟩ => ⟨slp_more ro_of a, slp_more ro_of b⟩
theorem pers_rheads (zs : List RZ) : Pers (RHeads zs) := fun h a z hz => pers_rhead z h (a z hz)

theorem join_ro {h1 h2 h : LH} (j : Join h1 h2 h) : ∀ b o, h1 b = some (false, o) → h b = some (false, o) := fun _ _ e => j.get e

theorem ent_rget {zs : List RZ} {z : RZ} {Γ : List Ch} (hz : z ∈ zs) : Ent (.pr (RHeads zs) :: Γ) (.pr (RHead z) :: .pr (RHeads zs) :: Γ) := .star fun h s => by
  obtain ⟨h1, h2, j, a, s2⟩ := Star.dupP (pers_rheads zs) s
  exact ⟨h1, h2, j, a z hz, s2⟩

theorem ent_rsnoc {zs : List RZ} {z : RZ} {Γ : List Ch} : Ent (.pr (RHead z) :: .pr (RHeads zs) :: Γ) (.pr (RHeads (zs ++ [z])) :: Γ) := .star fun h s => by
  obtain ⟨h1, h2, j, a, h3, h4, k, b, s2⟩ := s
  obtain ⟨h5, u, v⟩ := k.comm.assoc j.comm
  replace u := u.comm
  replace v := v.comm
  refine ⟨h5, h4, v, fun w hw => ?_, s2⟩
  rcases List.mem_append.1 hw with e | e
  · exact ⟨slp_more (join_ro u.comm) (b w e).1, slp_more (join_ro u.comm) (b w e).2⟩
  · rw [List.mem_singleton.1 e]; exact ⟨slp_more (join_ro u) a.1, slp_more (join_ro u) a.2⟩

/-- A header's slices one beside the other. -/
theorem rhead_open {z : RZ} {Γ : List Ch} : Ent (.pr (RHead z) :: Γ) (.pr (SlP false 49 7 z.2.1 (pkFl z.1.packets) z.1.packets.length) :: .pr (SlP false 186 2 z.2.2 (anFl z.1.answers) z.1.answers.length) :: Γ) := .star fun h s => by
  obtain ⟨h1, h2, j, a, h3, h4, k, b, s2⟩ := Star.dupP (pers_rhead z) s
  exact ⟨h1, h2, j, a.1, h3, h4, k, b.2, s2⟩

theorem rhead_fold {z : RZ} {Γ : List Ch} : Ent (.pr (SlP false 49 7 z.2.1 (pkFl z.1.packets) z.1.packets.length) :: .pr (SlP false 186 2 z.2.2 (anFl z.1.answers) z.1.answers.length) :: Γ) (.pr (RHead z) :: Γ) := .star fun h s => by
  obtain ⟨h1, h2, j, a, h3, h4, k, b, s2⟩ := s
  obtain ⟨hab, u, v⟩ := k.comm.assoc j.comm
  exact ⟨hab, h4, v.comm, ⟨slp_more (join_ro u.comm) a, slp_more (join_ro u) b⟩, s2⟩

/-! the chain -/

abbrev rcCells (s : Cn) (pv av hv : Value) : List Value :=
  [.int .u64 s.hd.height, .int .u64 s.hd.time, .bool s.hd.opn, .int .u64 s.hd.nrecv, pv, av, .int .i64 s.n,
   .int .u64 (s.has 0 0), .int .u64 (s.has 0 1), .int .u64 (s.has 1 0), .int .u64 (s.has 1 1), .int .u64 (s.has 2 0), .int .u64 (s.has 2 1),
   .int .u64 s.locked, .int .u64 s.about, .int .u64 s.nsend, hv, .int .i64 s.known]

structure RLay where
  pv : Value
  av : Value
  hv : Value
  zs : List RZ

abbrev refChs (c : Nat) (s : Cn) (y : RLay) : List Ch :=
  [.pt c true (.cells ⟨rcCells s y.pv y.av y.hv⟩ 132 (0, 0)), .pr (SlV 49 7 y.pv (pkFl s.hd.packets) s.hd.packets.length), .pr (SlV 186 2 y.av (anFl s.hd.answers) s.hd.answers.length),
   .pr (SlV 129 6 y.hv (y.zs.flatMap hdC) y.zs.length), .pr (RHeads y.zs)]
abbrev refL (c : Nat) (s : Cn) (y : RLay) (Γ : List Ch) : List Ch :=
  .pt c true (.cells ⟨rcCells s y.pv y.av y.hv⟩ 132 (0, 0)) :: .pr (SlV 49 7 y.pv (pkFl s.hd.packets) s.hd.packets.length) :: .pr (SlV 186 2 y.av (anFl s.hd.answers) s.hd.answers.length) ::
   .pr (SlV 129 6 y.hv (y.zs.flatMap hdC) y.zs.length) :: .pr (RHeads y.zs) :: Γ

/-- Whether every value in it is one cell. -/
structure RLOk (s : Cn) (y : RLay) : Prop where
  heads : y.zs.map (·.1) = s.heads
  one : ∀ z ∈ y.zs, oneC z.2.1 = true ∧ oneC z.2.2 = true

/-- A chain of the reference at a block. -/
def RefAt (c : Nat) (s : Cn) : LH → Prop := fun h => ∃ y : RLay, RLOk s y ∧ Star (refChs c s y) h

theorem ref_open {c : Nat} {s : Cn} {Γ : List Ch} : ∀ h, Star (.pr (RefAt c s) :: Γ) h → ∃ y : RLay, RLOk s y ∧ Star (refL c s y Γ) h := fun h st => by
  obtain ⟨y, st⟩ := Star.ex.1 st
  obtain ⟨ok, st⟩ := Star.pure.1 st
  exact ⟨y, ok, Star.open_.1 st⟩

theorem ref_fold {c : Nat} {s : Cn} {Γ : List Ch} (y : RLay) (ok : RLOk s y) : Ent (refL c s y Γ) (.pr (RefAt c s) :: Γ) := .star fun h st =>
  Star.ex.2 ⟨y, Star.pure.2 ⟨ok, Star.open_.2 st⟩⟩

/-! accounts -/

theorem three {u : Int} (h : 0 ≤ u ∧ u < 3) : u = 0 ∨ u = 1 ∨ u = 2 := by omega

theorem has_get (s : Cn) (pv av hv : Value) (u co : Int) (hu : 0 ≤ u ∧ u < 3) (hc : co = 0 ∨ co = 1) : (rcCells s pv av hv)[7 + u.toNat * 2 + co.toNat * 1]? = some (.int .u64 (s.has u co)) := by
  rcases three hu with rfl | rfl | rfl <;> rcases hc with rfl | rfl <;> rfl

theorem has_set (s : Cn) (pv av hv : Value) (u co x : Int) (hu : 0 ≤ u ∧ u < 3) (hc : co = 0 ∨ co = 1) : SetL (rcCells s pv av hv) (7 + u.toNat * 2 + co.toNat * 1) [.int .u64 x] (rcCells { s with has := setHas s.has u co x } pv av hv) := by
  rcases three hu with rfl | rfl | rfl <;> rcases hc with rfl | rfl
  · exact ⟨(rcCells s pv av hv).take 7, [.int .u64 (s.has 0 0)], (rcCells s pv av hv).drop 8, rfl, rfl, rfl, rfl⟩
  · exact ⟨(rcCells s pv av hv).take 8, [.int .u64 (s.has 0 1)], (rcCells s pv av hv).drop 9, rfl, rfl, rfl, rfl⟩
  · exact ⟨(rcCells s pv av hv).take 9, [.int .u64 (s.has 1 0)], (rcCells s pv av hv).drop 10, rfl, rfl, rfl, rfl⟩
  · exact ⟨(rcCells s pv av hv).take 10, [.int .u64 (s.has 1 1)], (rcCells s pv av hv).drop 11, rfl, rfl, rfl, rfl⟩
  · exact ⟨(rcCells s pv av hv).take 11, [.int .u64 (s.has 2 0)], (rcCells s pv av hv).drop 12, rfl, rfl, rfl, rfl⟩
  · exact ⟨(rcCells s pv av hv).take 12, [.int .u64 (s.has 2 1)], (rcCells s pv av hv).drop 13, rfl, rfl, rfl, rfl⟩

theorem rcredit_ok (c : Nat) (s : Cn) (pv av hv : Value) (u co x : Int) (Γ : List Ch) (hu : 0 ≤ u ∧ u < 3) (hc : co = 0 ∨ co = 1) :
    CallsX Try.prog 94 #[ptrV c, .int .i64 u, .int .i64 co, .int .u64 x] (.pt c true (.cells ⟨rcCells s pv av hv⟩ 132 (0, 0)) :: Γ)
      (fun v Δ => v = .tuple #[] ∧ Δ = .pt c true (.cells ⟨rcCells (credit s u co x) pv av hv⟩ 132 (0, 0)) :: Γ) := by
  refine calls_of_body (args := [ptrV c, .int .i64 u, .int .i64 co, .int .u64 x]) Try.func94 rfl Try.ntmps94 fun X cs ret => ?_
  repeat (first|refine zA rfl ?_|refine zC rfl ?_|refine zE rfl ?_|refine zR ?_|refine zT (by decide+kernel) (by decide+kernel) ?_)
  refine rg_indexArr rfl rfl (by omega) ?_
  skip
  refine rg_indexArr rfl rfl (by omega) ?_
  skip
  refine rg_load rfl ?_ (has_get s pv av hv u co hu hc)
  repeat (first|refine zA rfl ?_|refine zB rfl rfl rfl ?_|refine zC rfl ?_|refine zE rfl ?_)
  refine rg_indexArr rfl rfl (by omega) ?_
  skip
  refine rg_indexArr rfl rfl (by omega) ?_
  haveI := has_set s pv av hv u co (wu (s.has u co + x)) hu hc
  refine rg_store rfl rfl ?_
  repeat (first|refine zA rfl ?_|refine zB rfl rfl rfl ?_|refine zC rfl ?_|refine zE rfl ?_|refine zF rfl ?_|refine zQ ?_|refine zR ?_|refine zS ?_)
  refine ex_cond_split rfl (fun h => ?_) (fun h => ?_)
  · have h := of_decide_eq_true h
    repeat (first|refine zA rfl ?_|refine zB rfl rfl rfl ?_|refine zC rfl ?_|refine zE rfl ?_|refine zF rfl ?_|refine zN rfl rfl ?_|refine zQ ?_|refine zS ?_)
    refine ex_endc ret Try.func94 rfl ⟨rfl, ?_⟩
    simp only [credit, h, if_true]
  · have h := of_decide_eq_false h
    repeat (first|refine zA rfl ?_|refine zB rfl rfl rfl ?_|refine zC rfl ?_|refine zE rfl ?_|refine zF rfl ?_|refine zN rfl rfl ?_|refine zQ ?_|refine zS ?_)
    refine ex_endc ret Try.func94 rfl ⟨rfl, ?_⟩
    simp only [credit, h, if_false]

end Go.Br

namespace Go.Br
open Go Go.Lx Go.Proofs
open Go.Lx renaming rg_move → zA, rg_int → zB, rg_nilCheck → zC, rg_fieldAddr0 → zD, rg_fieldAddr → zE, rg_load → zF, rg_assign → zG, rg_loadAgg → zH, rg_extract → zI, rg_not → zJ, rg_pick → zK, rg_off → zL, rg_offU → zM, rg_store → zN, rg_storeAgg → zO, rg_convInt → zP, rg_done → zQ, ex_seq → zR, rg_start_s → zS, rg_start_d → zT, ex_cond_true → zU, ex_cond_false → zV, rg_alloc → zW, rg_boxAgg → zX, rg_build → zY, rg_lenSl → zZ, rg_lenMap → yA, ex_skip → yB, ex_block → yC, ex_inBlock → yD, ex_exit → yE, rg_caseG → yZ
set_option maxRecDepth 100000

theorem ent_nil {el m : Nat} {Γ : List Ch} : Ent Γ (.pr (SlV el m (.slice none 0 0) [] 0) :: Γ) := .star fun h st => star_slv.2 (.inl ⟨rfl, rfl, rfl, slp_none st⟩)

theorem flat_take {α : Type} {f : α → List Value} {m : Nat} (hf : ∀ a, (f a).length = m) (l : List α) (i : Nat) (hi : i ≤ l.length) (slack : List Value) : SliceL (l.flatMap f ++ slack) 0 (i * m) ((l.take i).flatMap f) := by
  refine ⟨[], (l.drop i).flatMap f ++ slack, ?_, rfl, ?_⟩
  · have e : l.flatMap f = (l.take i).flatMap f ++ (l.drop i).flatMap f := by rw [← List.flatMap_append, List.take_append_drop]
    rw [e]; simp only [List.nil_append, List.append_assoc]
  · rw [flat_len hf, List.length_take, Nat.min_eq_left hi]

theorem flat_drop {α : Type} {f : α → List Value} {m : Nat} (hf : ∀ a, (f a).length = m) (l : List α) (i : Nat) (hi : i ≤ l.length) (slack : List Value) : SliceL (l.flatMap f ++ slack) (i * m) ((l.length - i) * m) ((l.drop i).flatMap f) := by
  refine ⟨(l.take i).flatMap f, slack, ?_, ?_, ?_⟩
  · have e : l.flatMap f = (l.take i).flatMap f ++ (l.drop i).flatMap f := by rw [← List.flatMap_append, List.take_append_drop]
    rw [e]
  · rw [flat_len hf, List.length_take, Nat.min_eq_left hi]
  · rw [flat_len hf, List.length_drop]

theorem pk_one {l : List Pk} : ∀ v ∈ pkFl l, oneC v = true := fun v hv => by
  obtain ⟨p, _, h⟩ := List.mem_flatMap.1 hv
  simp only [pkC, List.mem_cons, List.not_mem_nil, or_false] at h
  rcases h with rfl | rfl | rfl | rfl | rfl | rfl | rfl <;> rfl

theorem an_one {l : List Ans} : ∀ v ∈ anFl l, oneC v = true := fun v hv => by
  obtain ⟨p, _, h⟩ := List.mem_flatMap.1 hv
  simp only [anC, List.mem_cons, List.not_mem_nil, or_false] at h
  rcases h with rfl | rfl <;> rfl

theorem erase_fl (l : List Pk) (k : Nat) : pkFl (l.take k) ++ pkFl (l.drop (k + 1)) = pkFl (l.eraseIdx k) := by
  rw [List.eraseIdx_eq_take_drop_succ, pkFl, pkFl, pkFl, List.flatMap_append]

set_option maxHeartbeats 1000000 in
theorem rgone_ok (c k : Nat) (s : Cn) (pv av hv : Value) (Γ : List Ch) (hk : k < s.hd.packets.length) (hl : s.hd.packets.length < 1000000000) :
    CallsX Try.prog 95 #[ptrV c, .int .i64 k] (.pt c true (.cells ⟨rcCells s pv av hv⟩ 132 (0, 0)) :: .pr (SlV 49 7 pv (pkFl s.hd.packets) s.hd.packets.length) :: Γ)
      (fun v Δ => ∃ pv', v = .tuple #[] ∧ Ent Δ (.pt c true (.cells ⟨rcCells { s with hd := { s.hd with packets := s.hd.packets.eraseIdx k } } pv' av hv⟩ 132 (0, 0)) :: .pr (SlV 49 7 pv' (pkFl (s.hd.packets.eraseIdx k)) (s.hd.packets.eraseIdx k).length) :: Γ)) := by
  refine calls_of_body (args := [ptrV c, .int .i64 k]) Try.func95 rfl Try.ntmps95 fun X cs ret => ?_
  (refine Ex.front 1 ?_)
  refine ex_slp (p := true) (fun h1 h2 h3 => absurd h3 (by omega)) (fun b0 cap slack h1 hz => ?_)
  subst h1
  have hz1 := hz.1
  refine Ex.ent (ent_nil (el := 49) (m := 7)) ?_
  (refine Ex.front 2 ?_; refine Ex.front 2 ?_; refine Ex.front 2 ?_)
  repeat (first|refine zA rfl ?_|refine zC rfl ?_|refine zD rfl ?_|refine zE rfl ?_|refine zF rfl ?_|refine zR ?_|refine zS ?_)
  refine rg_sliceHi rfl rfl ⟨by omega, by omega⟩ ?_
  rw [Int.toNat_natCast]
  haveI := flat_take pkC_len s.hd.packets k (by omega) slack
  refine rg_append (xs := []) (ys := pkFl (s.hd.packets.take k)) (len := 0) (c := k) rfl rfl (.inr ⟨b0, 0, cap, true, _, _, _, rfl, Find.mem, inferInstance⟩) pk_one (by omega) (by omega) (fun s' => .inl rfl) (fun s1 hone1 => ?_)
  repeat (first|refine zA rfl ?_|refine zB rfl rfl rfl ?_|refine zC rfl ?_|refine zD rfl ?_|refine zE rfl ?_|refine zF rfl ?_|refine zG rfl ?_|refine zQ ?_|refine zS ?_)
  rw [rwrap (by omega)]
  refine rg_sliceLo rfl rfl ⟨by omega, by omega⟩ ?_
  have e1 : ((k : Int) + 1).toNat = k + 1 := by omega
  rw [e1]
  have sv : SrcV (.pt b0 true (.cells ⟨pkFl s.hd.packets ++ slack⟩ 49 (0, 0)) :: .pt c true (.cells ⟨rcCells s (.slice (some ⟨b0, 0, none⟩) s.hd.packets.length cap) av hv⟩ 132 (0, 0)) :: Γ) (.slice (some ⟨b0, (if cap = k + 1 then 0 else 0 + (k + 1) * 7), none⟩) (s.hd.packets.length - (k + 1)) (cap - (k + 1))) 7 (pkFl (s.hd.packets.drop (k + 1))) (s.hd.packets.length - (k + 1)) := by
    by_cases h : s.hd.packets.length = k + 1
    · refine .inl ⟨_, _, by rw [h, Nat.sub_self], ?_, by omega⟩
      rw [← h, List.drop_length]; rfl
    · have hne : ¬ cap = k + 1 := by omega
      rw [if_neg hne, Nat.zero_add]
      exact .inr ⟨b0, _, _, true, _, _, _, rfl, Find.mem, flat_drop pkC_len s.hd.packets (k + 1) (by omega) slack⟩
  rw [List.nil_append, Nat.zero_add k]
  refine rg_append (xs := pkFl (s.hd.packets.take k)) (ys := pkFl (s.hd.packets.drop (k + 1))) (len := k) (c := s.hd.packets.length - (k + 1)) rfl rfl sv pk_one (by omega) (by omega) (fun s' => .inl rfl) (fun s2 hone2 => ?_)
  repeat (first|refine zC rfl ?_|refine zD rfl ?_|refine zE rfl ?_)
  refine rg_store rfl rfl ?_ hone2
  repeat refine zQ ?_
  refine ex_ende ret Try.func95 rfl (Ent.refl _) ⟨s2, rfl, ?_⟩
  have el : (s.hd.packets.eraseIdx k).length = k + (s.hd.packets.length - (k + 1)) := by rw [List.length_eraseIdx_of_lt hk]; omega
  rw [el, ← erase_fl]
  exact Ent.trans (front_ent 2) (Ent.cons (Ent.cons (Ent.drop (Ent.refl _))))

/-- A slice as what is copied, without asking whether it is nil. -/
theorem src_open {p : Bool} {el m : Nat} {s : Value} {xs : List Value} {len : Nat} {Γ : List Ch} : ∀ h, Star (.pr (SlP p el m s xs len) :: Γ) h → ∃ c : Ch, ((∃ a cap, s = .slice a len cap) ∧ (∀ Γ, c ∈ Γ → SrcV Γ s m xs len) ∧ ∀ Γ, EntR (.pr (SlP p el m s xs len) :: Γ) (c :: Γ)) ∧ Star (c :: Γ) h := fun h st => by
  rcases star_slp.1 st with ⟨h1, h2, h3, st'⟩ | ⟨bl, cap, slack, a, b, c, d, st'⟩
  · subst h1; subst h2; subst h3
    exact ⟨_, ⟨⟨_, _, rfl⟩, fun _ _ => .inl ⟨_, _, rfl, rfl, rfl⟩, fun Γ => Ent.star fun h st => star_slp.2 (.inl ⟨rfl, rfl, rfl, st⟩)⟩, st'⟩
  · subst a
    refine ⟨_, ⟨⟨_, _, rfl⟩, fun Γ hm => .inr ⟨bl, 0, cap, p, _, _, _, rfl, hm, ⟨[], slack, rfl, rfl, c⟩⟩, fun Γ => slp_fold bl cap slack ⟨b, c, d⟩⟩, st'⟩

set_option maxHeartbeats 1000000 in
theorem rcommit_ok (c : Nat) (s : Cn) (Γ : List Ch) (h1 : s.hd.packets.length < 1000000000) (h2 : s.hd.answers.length < 1000000000) (h3 : s.heads.length < 1000000000) :
    CallsX Try.prog 64 #[ptrV c] (.pr (RefAt c s) :: Γ) (fun v Δ => v = .tuple #[] ∧ Ent Δ (.pr (RefAt c (commit s)) :: Γ)) := by
  refine CallsX.open_ ref_open fun y ok => ?_
  obtain ⟨pv, av, hv, zs⟩ := y
  have hzl : zs.length = s.heads.length := by rw [← ok.heads, List.length_map]
  refine calls_of_body (args := [ptrV c]) Try.func64 rfl Try.ntmps64 fun X cs ret => ?_
  dsimp only [refL]
  (refine Ex.front 1 ?_)
  refine Ex.open_ (src_open (p := true)) fun k1 hk1 => ?_
  obtain ⟨⟨a1, cp1, e1⟩, s1, f1⟩ := hk1
  (refine Ex.front 2 ?_)
  refine Ex.open_ (src_open (p := true)) fun k2 hk2 => ?_
  obtain ⟨⟨a2, cp2, e2⟩, s2, f2⟩ := hk2
  subst e1; subst e2
  (refine Ex.front 2 ?_)
  repeat (first|refine zA rfl ?_|refine zC rfl ?_|refine zD rfl ?_|refine zE rfl ?_|refine zF rfl ?_|refine zH rfl ?_|refine zO rfl rfl ?_|refine zQ ?_|refine zR ?_|refine zS ?_|refine zW fun bl=>?_)
  refine Rg.ent (ent_nil (el := 49) (m := 7)) ?_
  refine rg_append (xs := []) (ys := pkFl s.hd.packets) (len := 0) (c := s.hd.packets.length) rfl rfl (s1 _ (by simp)) pk_one (by omega) (by omega) (fun s' => .inl rfl) (fun w1 one1 => ?_)
  repeat refine zE rfl ?_
  refine rg_store rfl rfl ?_ one1
  repeat (first|refine zA rfl ?_|refine zC rfl ?_|refine zD rfl ?_|refine zE rfl ?_|refine zF rfl ?_|refine zQ ?_|refine zR ?_|refine zS ?_)
  refine Rg.ent (ent_nil (el := 186) (m := 2)) ?_
  refine rg_append (xs := []) (ys := anFl s.hd.answers) (len := 0) (c := s.hd.answers.length) rfl rfl (s2 _ (by simp)) an_one (by omega) (by omega) (fun s' => .inl rfl) (fun w2 one2 => ?_)
  repeat refine zE rfl ?_
  refine rg_store rfl rfl ?_ one2
  repeat (first|refine zA rfl ?_|refine zC rfl ?_|refine zE rfl ?_|refine zF rfl ?_|refine zH rfl ?_|refine zQ ?_|refine zT (by decide+kernel) (by decide+kernel) ?_)
  refine rg_buildSlice (vs := [.agg ⟨hdC (s.hd, w1, w2)⟩]) rfl rfl rfl rfl (fun b2 => ?_)
  (refine Rg.front 7 ?_)
  refine rg_append (xs := zs.flatMap hdC) (ys := hdC (s.hd, w1, w2)) (len := zs.length) (c := 1) rfl rfl (.inr ⟨b2, 0, 1, true, hdC (s.hd, w1, w2), 129, (0, 0), rfl, Find.mem, inferInstance⟩) (fun v hv => ?_) (by omega) (by omega) (fun s' => .inr (by (repeat' first | exact trivial | refine ⟨.inr ⟨_, _, _, _, Find.mem, rfl⟩, ?_⟩ | refine ⟨.inr ⟨_, _, _, _, Find.mem, inferInstance⟩, ?_⟩ | refine ⟨.inr ⟨_, Find.mem⟩, ?_⟩ | refine ⟨.inl (by decide +kernel), ?_⟩))) (fun s' hone => ?_)
  · simp only [List.mem_cons, List.not_mem_nil, or_false] at hv
    rcases hv with rfl | rfl | rfl | rfl | rfl | rfl <;> first | rfl | exact one1 | exact one2
  repeat (first|refine zC rfl ?_|refine zE rfl ?_)
  refine rg_store rfl rfl ?_ hone
  repeat refine zQ ?_
  simp only [List.nil_append, Nat.zero_add]
  (refine Ex.front 0 ?_; refine Ex.front 5 ?_; refine Ex.front 6 ?_; refine Ex.front 7 ?_; refine Ex.front 8 ?_; refine Ex.front 6 ?_; refine Ex.front 7 ?_; refine Ex.front 8 ?_; refine Ex.front 8 ?_)
  refine Ex.drop (Ex.drop (Ex.ent slp_ro ?_))
  (refine Ex.front 1 ?_)
  refine Ex.ent slp_ro ?_
  (refine Ex.front 1 ?_)
  refine Ex.ent (rhead_fold (z := (s.hd, w1, w2))) ?_
  refine Ex.ent ent_rsnoc ?_
  (refine Ex.front 1 ?_)
  refine Ex.ent (EntR.e (f1 _)) ?_
  (refine Ex.front 2 ?_)
  refine Ex.ent (EntR.e (f2 _)) ?_
  (refine Ex.front 2 ?_; refine Ex.front 4 ?_; refine Ex.front 2 ?_; refine Ex.front 3 ?_; refine Ex.front 4 ?_)
  refine ex_ende ret Try.func64 rfl (Ent.refl _) ⟨rfl, ?_⟩
  have e1 : (zs ++ [(s.hd, w1, w2)]).flatMap hdC = zs.flatMap hdC ++ hdC (s.hd, w1, w2) := by simp [List.flatMap_append]
  have e2 : (zs ++ [(s.hd, w1, w2)]).length = zs.length + 1 := by simp
  rw [← e1, ← e2]
  exact ref_fold (c := c) (s := commit s) ⟨_, _, s', zs ++ [(s.hd, w1, w2)]⟩ ⟨by simp only [List.map_append, ok.heads]; rfl, fun z hz => by
    rcases List.mem_append.1 hz with e | e
    · exact ok.one z e
    · rw [List.mem_singleton.1 e]; exact ⟨one1, one2⟩⟩

end Go.Br
