/-
  Lemmas towards the law, proved without conditions of their own: Contract of New of package bridge; Contracts of package bridge over the abstract bridge; THE REFERENCE OF THE STATEMENTS: how its parts lie in memory; find, due; KEEP: small lemmas of the law group that are needed here too; KEEP: what holds of two chains and of what was sent between them. Plain law; KEEP: what holds of two chains, and stays so by each step. Plain law.
-/
import Derived.Test.YtedaknlacigbhaaPk16
import Derived.Test.YtedaknlacigbhaaPk09
namespace Go.Lx
open Go
section
variable {P : Program} {X : Tgt} {b : Base} {n : Nat} {dr : Bool} {ops : Array Oper} {lo : Nat} {ex : List Nat} {fl : Floats} {E : Env} {rem : List Oper} {k : List Item} {cs : List Frame} {Γ : List Ch}
variable {d : Nat} {T : TypeId} {pos : String} {af : Array Edge} {gd : Option (Nat × Bool)}

/-- 'a[i]' of an array that is a value. -/
theorem rg_indexAgg {t len el : Nat} {x y : Operand} {vs : List Value} {v : Value} {kk : IntKind} {i : Int} [u : Under P t (.array len el)] [s : Scalar P el] [c : CellsOf P el 1] (hx : Env.val E x = some (.agg ⟨vs⟩)) (hy : Env.val E y = some (.int kk i))
    (hi : 0 ≤ i ∧ i < len) (hv : vs[i.toNat]? = some v) (e : Rg P X b n dr ops (lo + 1) ex fl ((d, v) :: E) rem k cs Γ)
    (hdn : d < n := by decide) (hex : NotYet ex lo := trivial) (hg : GuardOK ops ⟨some d, .index t x y, T, pos, af, gd⟩ E := by first | exact trivial | exact ⟨_, rfl, rfl⟩) :
    Rg P X b n dr ops lo ex fl E (⟨some d, .index t x y, T, pos, af, gd⟩ :: rem) k cs Γ :=
  rg_pure rfl hdn hex rfl hg (fun _ ρ h hρ _ => by
    have h1 := hρ x (by simp [Op.operands]) _ hx
    have h2 := hρ y (by simp [Op.operands]) _ hy
    obtain ⟨ci, c1, c2⟩ := c.size
    simp only [execOp, wpE_bind', h1, h2, Instr.index, asIntOf, wpE_pure, wpE_underlying u.eq, hi.1, hi.2, and_self, if_true, wpE_sizeOf c1, c2]
    refine wpE_part (v := v) (by simpa using hv) ?_
    exact ⟨rfl, rfl⟩) e
end
end Go.Lx
namespace Go.Br
open Go Go.Lx Go.Proofs
open Go.Lx renaming rg_move → zA, rg_int → zB, rg_nilCheck → zC, rg_fieldAddr0 → zD, rg_fieldAddr → zE, rg_load → zF, rg_assign → zG, rg_loadAgg → zH, rg_extract → zI, rg_not → zJ, rg_pick → zK, rg_off → zL, rg_offU → zM, rg_store → zN, rg_storeAgg → zO, rg_convInt → zP, rg_done → zQ, ex_seq → zR, rg_start_s → zS, rg_start_d → zT, ex_cond_true → zU, ex_cond_false → zV, rg_alloc → zW, rg_boxAgg → zX, rg_build → zY, rg_lenSl → zZ, rg_lenMap → yA, ex_skip → yB, ex_block → yC, ex_inBlock → yD, ex_exit → yE, rg_caseG → yZ
set_option maxRecDepth 100000

theorem newCn_heads (n co : Int) : (newCn n co).heads = [(newCn n co).hd] := rfl
abbrev hd0 : Hd := { height := 0, time := 0, opn := true, nrecv := 1, packets := [], answers := [] }

set_option maxHeartbeats 4000000 in
theorem bNew_ok (co : Int) (Γ : List Ch) (hc : 0 ≤ co ∧ co ≤ 1152921504606846976) :
    CallsX Try.prog 26 #[.int .u64 co] Γ
      (fun v Δ => ∃ b c0 c1, v = .tuple #[ptrV b, .int .i64 0] ∧ Δ = brL b c0 c1 0 (newCn 0 co) (newCn 1 co) hd0 hd0 Γ) := by
  refine calls_of_body (args := [.int .u64 co]) Try.func26 rfl Try.ntmps26 fun X cs ret => ?_
  repeat (first|refine zA rfl ?_|refine zB rfl rfl rfl ?_|refine zG rfl ?_|refine zQ ?_|refine zR ?_|refine zS ?_)
  refine ex_cond_split rfl (fun h1 => ?_) (fun _ => ?_)
  · exact absurd (of_decide_eq_true h1) (by omega)
  repeat (first|refine zA rfl ?_|refine zG rfl ?_|refine zQ ?_|refine zR ?_|refine zS ?_|refine zX rfl fun bl=>?_|refine zY rfl ?_|refine yB ?_|refine yC ?_)
  refine ex_loop ?_
  repeat (first|refine zA rfl ?_|refine zB rfl rfl rfl ?_|refine zG rfl ?_|refine zQ ?_|refine zR ?_|refine zS ?_|refine zU rfl ?_|refine yB ?_|refine yC ?_)
  (refine rg_start_p [0, 1, 2, 3, 5, 6, 4, 7, 8] (by decide +kernel) (by decide +kernel) (by simp only [permL, List.getElem?_cons_succ, List.getElem?_cons_zero]; rfl) ?_)
  repeat (first|refine zA rfl ?_|refine zC rfl ?_|refine zD rfl ?_)
  refine rg_call rfl (new_ok 0 co _ hc.1) ?_
  rintro _ _ ⟨c0, rfl, rfl⟩
  refine ⟨.inr (by (repeat' first | exact trivial | refine ⟨.inr ⟨_, _, _, _, Find.mem, rfl⟩, ?_⟩ | refine ⟨.inr ⟨_, _, _, _, Find.mem, inferInstance⟩, ?_⟩ | refine ⟨.inr ⟨_, Find.mem⟩, ?_⟩ | refine ⟨.inl (by decide +kernel), ?_⟩)), ?_⟩
  skip
  refine rg_indexArr rfl rfl (by decide) ?_
  rw [show (0 + Int.toNat 0 * 1 : Nat) = 0 from rfl]
  repeat (first|refine zA rfl ?_|refine zB rfl rfl rfl ?_|refine zN rfl rfl ?_|refine zQ ?_|refine zS ?_|refine yD ?_)
  rw [show IntKind.wrap .i64 (0 + 1) = 1 from by decide]
  skip
  refine ex_inLoop ?_
  repeat (first|refine zA rfl ?_|refine zB rfl rfl rfl ?_|refine zG rfl ?_|refine zQ ?_|refine zR ?_|refine zS ?_|refine zU rfl ?_|refine yB ?_|refine yC ?_)
  (refine rg_start_p [0, 1, 2, 3, 5, 6, 4, 7, 8] (by decide +kernel) (by decide +kernel) (by simp only [permL, List.getElem?_cons_succ, List.getElem?_cons_zero]; rfl) ?_)
  repeat (first|refine zA rfl ?_|refine zC rfl ?_|refine zD rfl ?_)
  refine rg_call rfl (new_ok 1 co _ hc.1) ?_
  rintro _ _ ⟨c1, rfl, rfl⟩
  refine ⟨.inr (by (repeat' first | exact trivial | refine ⟨.inr ⟨_, _, _, _, Find.mem, rfl⟩, ?_⟩ | refine ⟨.inr ⟨_, _, _, _, Find.mem, inferInstance⟩, ?_⟩ | refine ⟨.inr ⟨_, Find.mem⟩, ?_⟩ | refine ⟨.inl (by decide +kernel), ?_⟩)), ?_⟩
  skip
  refine rg_indexArr rfl rfl (by decide) ?_
  rw [show (0 + Int.toNat 1 * 1 : Nat) = 1 from rfl]
  repeat (first|refine zA rfl ?_|refine zB rfl rfl rfl ?_|refine zN rfl rfl ?_|refine zQ ?_|refine zS ?_|refine yD ?_)
  rw [show IntKind.wrap .i64 (1 + 1) = 2 from by decide]
  skip
  refine ex_inLoop ?_
  repeat (first|refine zA rfl ?_|refine zB rfl rfl rfl ?_|refine zC rfl ?_|refine zD rfl ?_|refine zH rfl ?_|refine zQ ?_|refine zR ?_|refine zS ?_|refine zV rfl ?_|refine yC ?_|refine yE rfl ?_)
  refine ex_loop ?_
  repeat (first|refine zA rfl ?_|refine zB rfl rfl rfl ?_|refine zQ ?_|refine zR ?_|refine zS ?_|refine zU rfl ?_|refine yB ?_|refine yC ?_)
  refine rg_indexAgg (v := ptrV c0) rfl rfl (by decide) rfl ?_
  repeat (first|refine zA rfl ?_|refine zB rfl rfl rfl ?_|refine zC rfl ?_|refine zD rfl ?_|refine zG rfl ?_|refine zQ ?_|refine zS ?_)
  refine rg_indexArr rfl rfl (by decide) ?_
  repeat refine zF rfl ?_
  refine rg_call rfl (meet_ok c0 c1 (newCn 0 co) (newCn 1 co) (newCn 0 co).hd (newCn 1 co).hd (newCn 1 co).hd [] _ (newCn_heads 1 co)) ?_
  rintro _ _ ⟨rfl, rfl⟩
  refine ⟨.inl rfl, ?_⟩
  repeat (first|refine zA rfl ?_|refine zB rfl rfl rfl ?_|refine zQ ?_|refine zS ?_|refine yD ?_)
  rw [show IntKind.wrap .i64 (0 + 1) = 1 from by decide]
  refine ex_inLoop ?_
  repeat (first|refine zA rfl ?_|refine zB rfl rfl rfl ?_|refine zQ ?_|refine zR ?_|refine zS ?_|refine zU rfl ?_|refine yB ?_|refine yC ?_)
  refine rg_indexAgg (v := ptrV c1) rfl rfl (by decide) rfl ?_
  repeat (first|refine zA rfl ?_|refine zB rfl rfl rfl ?_|refine zC rfl ?_|refine zD rfl ?_|refine zG rfl ?_|refine zQ ?_|refine zS ?_)
  refine rg_indexArr rfl rfl (by decide) ?_
  repeat refine zF rfl ?_
  (refine Rg.front 1 ?_)
  refine rg_call rfl (meet_ok c1 c0 (newCn 1 co) (newCn 0 co) (newCn 1 co).hd (newCn 1 co).hd (newCn 0 co).hd [] _ (newCn_heads 0 co)) ?_
  rintro _ _ ⟨rfl, rfl⟩
  refine ⟨.inl rfl, ?_⟩
  repeat (first|refine zA rfl ?_|refine zB rfl rfl rfl ?_|refine zQ ?_|refine zS ?_|refine yD ?_)
  rw [show IntKind.wrap .i64 (1 + 1) = 2 from by decide]
  refine ex_inLoop ?_
  repeat (first|refine zA rfl ?_|refine zB rfl rfl rfl ?_|refine zG rfl ?_|refine zQ ?_|refine zR ?_|refine zS ?_|refine zV rfl ?_|refine yE rfl ?_)
  (refine Ex.front 1 ?_; refine Ex.front 1 ?_; refine Ex.front 2 ?_)
  exact ex_retc ret Try.func26 rfl ⟨bl, c0, c1, rfl, rfl⟩

theorem bNewX_ok (co : Int) (Γ : List Ch) (hc : 1152921504606846976 < co) :
    CallsX Try.prog 26 #[.int .u64 co] Γ (fun v Δ => v = .tuple #[.pointer none, .int .i64 5] ∧ Δ = Γ) := by
  refine calls_of_body (args := [.int .u64 co]) Try.func26 rfl Try.ntmps26 fun X cs ret => ?_
  repeat (first|refine zA rfl ?_|refine zB rfl rfl rfl ?_|refine zG rfl ?_|refine zQ ?_|refine zR ?_|refine zS ?_)
  refine ex_cond_split rfl (fun _ => ?_) (fun h1 => ?_)
  · repeat (first|refine zG rfl ?_|refine zQ ?_|refine zR ?_|refine zS ?_)
    exact ex_retc ret Try.func26 rfl ⟨rfl, rfl⟩
  · exact absurd (of_decide_eq_false h1) (by omega)

end Go.Br

namespace Go.Br
open Go Go.Lx Go.Proofs
set_option maxRecDepth 100000

/-- A bridge of the program at a block. -/
def BgAt (b : Nat) (S : Bg) : LH → Prop := fun h => ∃ z : Nat × Nat, Star (brL b z.1 z.2 S.tk S.s0 S.s1 (knOf S.s0 S.s1) (knOf S.s1 S.s0) []) h

theorem bg_open {b : Nat} {S : Bg} {Γ : List Ch} : ∀ h, Star (.pr (BgAt b S) :: Γ) h → ∃ z : Nat × Nat, True ∧ Star (brL b z.1 z.2 S.tk S.s0 S.s1 (knOf S.s0 S.s1) (knOf S.s1 S.s0) Γ) h := fun h st => by
  obtain ⟨z, st⟩ := Star.ex.1 st
  exact ⟨z, trivial, Star.open_.1 st⟩

theorem bg_fold {b : Nat} {S : Bg} {Γ : List Ch} (c0 c1 : Nat) {tk : Int} {s0 s1 : Cn} {k0 k1 : Hd} (h1 : tk = S.tk) (h2 : s0 = S.s0) (h3 : s1 = S.s1) (h4 : k0 = knOf S.s0 S.s1) (h5 : k1 = knOf S.s1 S.s0) : Ent (brL b c0 c1 tk s0 s1 k0 k1 Γ) (.pr (BgAt b S) :: Γ) := by
  subst h1; subst h2; subst h3; subst h4; subst h5
  exact .star fun h st => Star.ex.2 ⟨(c0, c1), Star.open_.2 st⟩

theorem stepKn_eq {B : Nat} {s o : Cn} (ok : Ok B o) (h : s.known < o.heads.length) (x : Stp) (hx : 0 ≤ x.n) : stepKn s x (knOf s o) o.heads = knOf (step s x (knOf s o) o.heads.length).1 o := by
  obtain ⟨_, _, f3⟩ := step_frame s x (knOf s o) o.heads.length
  rw [show knOf (step s x (knOf s o) o.heads.length).1 o = o.heads.getD (step s x (knOf s o) o.heads.length).1.known default from rfl, f3]
  unfold stepKn
  split
  · split
    · rfl
    · have hl : x.n.toNat < o.heads.length := by omega
      rw [List.getD_eq_getElem?_getD, List.getD_eq_getElem?_getD, List.getElem?_eq_getElem hl]; rfl
  · rfl

theorem heads_len {B : Nat} {s : Cn} (ok : Ok B s) (hB : B < 100000000) : s.heads.length < 1000000000 := by
  have := ok.len; have := ok.hd.height; omega

theorem wrap_tk {t : Int} (h : 0 ≤ t ∧ t < 1000000000) : IntKind.wrap .i64 (t + 1) = t + 1 := wIn (by omega) (by omega)

theorem Do_bg (b : Nat) (S : Bg) (c : Int) (x : Stp) (B : Nat) (Γ : List Ch) (ok : BgOk B S) (hB : B < 100000000) (hx : 0 ≤ x.n ∧ x.n < 18446744073709551616) :
    CallsX Try.prog 22 #[ptrV b, .int .i64 c, stV x] (.pr (BgAt b S) :: Γ)
      (fun v Δ => v = .tuple #[.int .u64 (bgDo S c x).2.1, .int .i64 (bgDo S c x).2.2] ∧ Ent Δ (.pr (BgAt b (bgDo S c x).1) :: Γ)) := by
  have htk := ok.tk
  refine CallsX.open_ bg_open fun z _ => ?_
  obtain ⟨c0, c1⟩ := z
  dsimp only
  by_cases h0 : c = 0
  · subst h0
    obtain ⟨a1, a2⟩ := knOf_ok ok.ok1 ok.k0
    refine (Do0_ok b c0 c1 S.tk S.s0 S.s1 _ _ x B Γ ok.ok0 ok.ok1 a1 hB hx a2).mono ?_
    rintro v Δ ⟨rfl, rfl⟩
    refine ⟨rfl, bg_fold c0 c1 ?_ rfl rfl ?_ ?_⟩
    · show _ = if _ = 0 then S.tk + 1 else S.tk
      rw [wrap_tk (by omega)]; rfl
    · exact stepKn_eq ok.ok1 ok.k0 x hx.1
    · exact ((knOf_other ok x _ _).1).symm
  by_cases h1 : c = 1
  · subst h1
    obtain ⟨a1, a2⟩ := knOf_ok ok.ok0 ok.k1
    refine (Do1_ok b c0 c1 S.tk S.s0 S.s1 _ _ x B Γ ok.ok1 ok.ok0 a1 hB hx a2).mono ?_
    rintro v Δ ⟨rfl, rfl⟩
    refine ⟨rfl, bg_fold c0 c1 ?_ rfl rfl ?_ ?_⟩
    · show _ = if _ = 0 then S.tk + 1 else S.tk
      rw [wrap_tk (by omega)]; rfl
    · exact ((knOf_other ok x _ _).2).symm
    · exact stepKn_eq ok.ok0 ok.k1 x hx.1
  · have e : bgDo S c x = (S, 0, 1) := by unfold bgDo bgStep; rw [if_neg h0, if_neg h1]
    rw [e]
    refine (DoX_ok b c x _ h0 h1).mono ?_
    rintro v Δ ⟨rfl, rfl⟩
    exact ⟨rfl, bg_fold c0 c1 rfl rfl rfl rfl rfl⟩

/-- What Balance answers. -/
def bgBal (S : Bg) (c u co : Int) : Int := if c = 0 then S.s0.has u co else if c = 1 then S.s1.has u co else 0

theorem Balance_bg (b : Nat) (S : Bg) (c u co : Int) (B : Nat) (Γ : List Ch) (ok : BgOk B S) (hB : B < 100000000) :
    CallsX Try.prog 30 #[ptrV b, .int .i64 c, .int .i64 u, .int .i64 co] (.pr (BgAt b S) :: Γ)
      (fun v Δ => v = .int .u64 (bgBal S c u co) ∧ Ent Δ (.pr (BgAt b S) :: Γ)) := by
  refine CallsX.open_ bg_open fun z _ => ?_
  obtain ⟨c0, c1⟩ := z
  dsimp only
  by_cases h0 : c = 0
  · subst h0
    refine (Balance0_ok b c0 c1 S.tk S.s0 S.s1 _ _ u co Γ (heads_len ok.ok1 hB)).mono ?_
    rintro v Δ ⟨rfl, rfl⟩
    exact ⟨rfl, bg_fold c0 c1 rfl rfl rfl rfl rfl⟩
  by_cases h1 : c = 1
  · subst h1
    refine (Balance1_ok b c0 c1 S.tk S.s0 S.s1 _ _ u co Γ (heads_len ok.ok0 hB)).mono ?_
    rintro v Δ ⟨rfl, rfl⟩
    exact ⟨rfl, bg_fold c0 c1 rfl rfl rfl rfl rfl⟩
  · have e : bgBal S c u co = 0 := by unfold bgBal; rw [if_neg h0, if_neg h1]
    rw [e]
    refine (BalanceX_ok b c u co _ h0 h1).mono ?_
    rintro v Δ ⟨rfl, rfl⟩
    exact ⟨rfl, bg_fold c0 c1 rfl rfl rfl rfl rfl⟩

theorem Look0_bg (b : Nat) (S : Bg) (B : Nat) (Γ : List Ch) (ok : BgOk B S) (hB : B < 100000000) :
    CallsX Try.prog 25 #[ptrV b, .int .i64 0] (.pr (BgAt b S) :: Γ)
      (fun v Δ => ∃ a cap, v = .tuple #[.agg ⟨lookL S.s0 (knOf S.s0 S.s1) (.slice a S.s0.hd.packets.length cap)⟩, .int .i64 0] ∧
        Ent Δ (.pr (SlV 36 1 (.slice a S.s0.hd.packets.length cap) (S.s0.hd.packets.map qV) S.s0.hd.packets.length) :: .pr (BgAt b S) :: Γ)) := by
  refine CallsX.open_ bg_open fun z _ => ?_
  obtain ⟨c0, c1⟩ := z
  dsimp only
  refine (Look0_ok b c0 c1 S.tk S.s0 S.s1 _ _ B Γ ok.ok0 hB (heads_len ok.ok1 hB)).mono ?_
  rintro v Δ ⟨b', a, cap, rfl, rfl⟩
  exact ⟨a, cap, rfl, Ent.drop (Ent.cons (bg_fold c0 c1 rfl rfl rfl rfl rfl))⟩

theorem Look1_bg (b : Nat) (S : Bg) (B : Nat) (Γ : List Ch) (ok : BgOk B S) (hB : B < 100000000) :
    CallsX Try.prog 25 #[ptrV b, .int .i64 1] (.pr (BgAt b S) :: Γ)
      (fun v Δ => ∃ a cap, v = .tuple #[.agg ⟨lookL S.s1 (knOf S.s1 S.s0) (.slice a S.s1.hd.packets.length cap)⟩, .int .i64 0] ∧
        Ent Δ (.pr (SlV 36 1 (.slice a S.s1.hd.packets.length cap) (S.s1.hd.packets.map qV) S.s1.hd.packets.length) :: .pr (BgAt b S) :: Γ)) := by
  refine CallsX.open_ bg_open fun z _ => ?_
  obtain ⟨c0, c1⟩ := z
  dsimp only
  refine (Look1_ok b c0 c1 S.tk S.s0 S.s1 _ _ B Γ ok.ok1 hB (heads_len ok.ok0 hB)).mono ?_
  rintro v Δ ⟨b', a, cap, rfl, rfl⟩
  exact ⟨a, cap, rfl, Ent.drop (Ent.cons (bg_fold c0 c1 rfl rfl rfl rfl rfl))⟩

theorem LookX_bg (b : Nat) (c : Int) (Γ : List Ch) (h0 : c ≠ 0) (h1 : c ≠ 1) :
    CallsX Try.prog 25 #[ptrV b, .int .i64 c] Γ (fun v Δ => v = .tuple #[.agg ⟨lookZ⟩, .int .i64 1] ∧ Ent Δ Γ) :=
  (LookX_ok b c Γ h0 h1).mono (by rintro v Δ ⟨b', rfl, rfl⟩; exact ⟨rfl, Ent.drop (Ent.refl _)⟩)

theorem Head_bg (b : Nat) (S : Bg) (c h : Int) (B : Nat) (Γ : List Ch) (ok : BgOk B S) (hB : B < 100000000) (hh : 0 ≤ h) :
    CallsX Try.prog 31 #[ptrV b, .int .i64 c, .int .u64 h] (.pr (BgAt b S) :: Γ)
      (fun v Δ => v = .tuple #[.agg ⟨shL (headRes S.s0 S.s1 c h).1⟩, .int .i64 (headRes S.s0 S.s1 c h).2] ∧ Ent Δ (.pr (BgAt b S) :: Γ)) := by
  refine CallsX.open_ bg_open fun z _ => ?_
  obtain ⟨c0, c1⟩ := z
  dsimp only
  refine (Head_ok b c0 c1 S.tk S.s0 S.s1 _ _ c h Γ (heads_len ok.ok0 hB) (heads_len ok.ok1 hB) hh).mono ?_
  rintro v Δ ⟨b', rfl, rfl⟩
  exact ⟨rfl, Ent.drop (bg_fold c0 c1 rfl rfl rfl rfl rfl)⟩

theorem Same_bg (b : Nat) (S : Bg) (c h d g : Int) (B : Nat) (Γ : List Ch) (ok : BgOk B S) (hB : B < 100000000) (hh : 0 ≤ h) (hg : 0 ≤ g) :
    CallsX Try.prog 32 #[ptrV b, .int .i64 c, .int .u64 h, .int .i64 d, .int .u64 g] (.pr (BgAt b S) :: Γ)
      (fun v Δ => v = .bool (sameRes S.s0 S.s1 c h d g) ∧ Ent Δ (.pr (BgAt b S) :: Γ)) := by
  refine CallsX.open_ bg_open fun z _ => ?_
  obtain ⟨c0, c1⟩ := z
  dsimp only
  refine (Same_ok b c0 c1 S.tk S.s0 S.s1 _ _ c h d g Γ (heads_len ok.ok0 hB) (heads_len ok.ok1 hB) hh hg).mono ?_
  rintro v Δ ⟨rfl, rfl⟩
  exact ⟨rfl, bg_fold c0 c1 rfl rfl rfl rfl rfl⟩

theorem Taken_bg (b : Nat) (S : Bg) (B : Nat) (Γ : List Ch) (ok : BgOk B S) (hB : B < 100000000) :
    CallsX Try.prog 35 #[ptrV b] (.pr (BgAt b S) :: Γ) (fun v Δ => v = .int .i64 S.tk ∧ Ent Δ (.pr (BgAt b S) :: Γ)) := by
  have htk := ok.tk
  refine CallsX.open_ bg_open fun z _ => ?_
  obtain ⟨c0, c1⟩ := z
  dsimp only
  refine (Taken_ok b c0 c1 S.tk _ (by omega)).mono ?_
  rintro v Δ ⟨rfl, rfl⟩
  exact ⟨rfl, bg_fold c0 c1 rfl rfl rfl rfl rfl⟩

abbrev bgNew (co : Int) : Bg := ⟨newCn 0 co, newCn 1 co, 0⟩

theorem New_bg (co : Int) (Γ : List Ch) (hc : 0 ≤ co ∧ co ≤ 1152921504606846976) :
    CallsX Try.prog 26 #[.int .u64 co] Γ (fun v Δ => ∃ b, v = .tuple #[ptrV b, .int .i64 0] ∧ Ent Δ (.pr (BgAt b (bgNew co)) :: Γ)) :=
  (bNew_ok co Γ hc).mono (by rintro v Δ ⟨b, c0, c1, rfl, rfl⟩; exact ⟨b, rfl, bg_fold c0 c1 rfl rfl rfl rfl rfl⟩)

end Go.Br

namespace Go.Br
open Go Go.Lx Go.Proofs
open Go.Lx renaming rg_move → zA, rg_int → zB, rg_nilCheck → zC, rg_fieldAddr0 → zD, rg_fieldAddr → zE, rg_load → zF, rg_assign → zG, rg_loadAgg → zH, rg_extract → zI, rg_not → zJ, rg_pick → zK, rg_off → zL, rg_offU → zM, rg_store → zN, rg_storeAgg → zO, rg_convInt → zP, rg_done → zQ, ex_seq → zR, rg_start_s → zS, rg_start_d → zT, ex_cond_true → zU, ex_cond_false → zV, rg_alloc → zW, rg_boxAgg → zX, rg_build → zY, rg_lenSl → zZ, rg_lenMap → yA, ex_skip → yB, ex_block → yC, ex_inBlock → yD, ex_exit → yE, rg_caseG → yZ
set_option maxRecDepth 100000

/-- A slice from the beginning of its array, owned or to be read alone. -/
def SlP (p : Bool) (el m : Nat) (s : Value) (xs : List Value) (len : Nat) : LH → Prop := fun h =>
  (s = .slice none 0 0 ∧ xs = [] ∧ len = 0) ∨
  ∃ bl cap slack, s = .slice (some ⟨bl, 0, none⟩) len cap ∧ len ≤ cap ∧ xs.length = len * m ∧ slack.length = (cap - len) * m ∧ h bl = some (p, .cells ⟨xs ++ slack⟩ el (0, 0))

theorem slp_v {el m : Nat} {s : Value} {xs : List Value} {len : Nat} : SlP true el m s xs len = SlV el m s xs len := rfl

theorem SlP.one {p : Bool} {el m : Nat} {s : Value} {xs : List Value} {len : Nat} {h : LH} (v : SlP p el m s xs len h) : oneC s = true := by
  rcases v with ⟨h1, _⟩ | ⟨_, _, _, h1, _⟩ <;> (subst h1; rfl)

theorem star_slp {p : Bool} {el m : Nat} {s : Value} {xs : List Value} {len : Nat} {Γ : List Ch} {h : LH} :
    Star (.pr (SlP p el m s xs len) :: Γ) h ↔ (s = .slice none 0 0 ∧ xs = [] ∧ len = 0 ∧ Star (.pr (fun _ => True) :: Γ) h) ∨
      ∃ bl cap slack, s = .slice (some ⟨bl, 0, none⟩) len cap ∧ len ≤ cap ∧ xs.length = len * m ∧ slack.length = (cap - len) * m ∧ Star (.pt bl p (.cells ⟨xs ++ slack⟩ el (0, 0)) :: Γ) h := by
  constructor
  · rintro ⟨h1, h2, j, v, st⟩
    rcases v with ⟨a, b, c⟩ | ⟨bl, cap, slack, a, b, c, d, e⟩
    · exact .inl ⟨a, b, c, h1, h2, j, trivial, st⟩
    · exact .inr ⟨bl, cap, slack, a, b, c, d, h1, h2, j, e, st⟩
  · rintro (⟨a, b, c, h1, h2, j, _, st⟩ | ⟨bl, cap, slack, a, b, c, d, h1, h2, j, e, st⟩)
    · exact ⟨h1, h2, j, .inl ⟨a, b, c⟩, st⟩
    · exact ⟨h1, h2, j, .inr ⟨bl, cap, slack, a, b, c, d, e⟩, st⟩

theorem slp_none {Γ : List Ch} {h : LH} (st : Star Γ h) : Star (.pr (fun _ => True) :: Γ) h := ⟨fun _ => none, h, fun _ => .inl ⟨rfl, rfl⟩, trivial, st⟩

theorem ex_slp {P : Program} {X : Tgt} {b : Base} {n : Nat} {E : Env} {k : List Item} {cs : List Frame} {Γ : List Ch} {p : Bool} {el m : Nat} {s : Value} {xs : List Value} {len : Nat}
    (e0 : s = .slice none 0 0 → xs = [] → len = 0 → Ex P X b n E k cs Γ)
    (e1 : ∀ bl cap slack, s = .slice (some ⟨bl, 0, none⟩) len cap → (len ≤ cap ∧ xs.length = len * m ∧ slack.length = (cap - len) * m) → Ex P X b n E k cs (.pt bl p (.cells ⟨xs ++ slack⟩ el (0, 0)) :: Γ)) : Ex P X b n E k cs (.pr (SlP p el m s xs len) :: Γ) := fun tmps h t st => by
  rcases star_slp.1 st with ⟨h1, h2, h3, st'⟩ | ⟨bl, cap, slack, a, b, c, d, st'⟩
  · exact Ex.drop (c := .pr (fun _ => True)) (e0 h1 h2 h3) tmps h t st'
  · exact e1 bl cap slack a ⟨b, c, d⟩ tmps h t st'

theorem slp_fold {p : Bool} {el m : Nat} {xs : List Value} {len : Nat} {Γ : List Ch} (b cap : Nat) (slack : List Value) (h : len ≤ cap ∧ xs.length = len * m ∧ slack.length = (cap - len) * m) : EntR (.pr (SlP p el m (.slice (some ⟨b, 0, none⟩) len cap) xs len) :: Γ) (.pt b p (.cells ⟨xs ++ slack⟩ el (0, 0)) :: Γ) :=
  .star fun _ st => star_slp.2 (.inr ⟨b, cap, slack, rfl, h.1, h.2.1, h.2.2, st⟩)

theorem slp_open {p : Bool} {el m : Nat} {s : Value} {xs : List Value} {len : Nat} {Γ : List Ch} (hpos : 0 < len) : ∀ h, Star (.pr (SlP p el m s xs len) :: Γ) h → ∃ z : Nat × Nat × List Value, (s = .slice (some ⟨z.1, 0, none⟩) len z.2.1 ∧ len ≤ z.2.1 ∧ xs.length = len * m ∧ z.2.2.length = (z.2.1 - len) * m) ∧ Star (.pt z.1 p (.cells ⟨xs ++ z.2.2⟩ el (0, 0)) :: Γ) h := fun h st => by
  rcases star_slp.1 st with ⟨_, _, h3, _⟩ | ⟨bl, cap, slack, a, b, c, d, e⟩
  · omega
  · exact ⟨(bl, cap, slack), ⟨a, b, c, d⟩, e⟩

/-- What is owned may be kept to be read alone. -/
theorem slp_ro {el m : Nat} {s : Value} {xs : List Value} {len : Nat} {Γ : List Ch} : Ent (.pr (SlV el m s xs len) :: Γ) (.pr (SlP false el m s xs len) :: Γ) := fun h st => by
  rcases (star_slp (p := true)).1 st with ⟨h1, h2, h3, st'⟩ | ⟨bl, cap, slack, a, b, c, d, st'⟩
  · exact ⟨h, .refl h, star_slp.2 (.inl ⟨h1, h2, h3, st'⟩)⟩
  · obtain ⟨h', l, s'⟩ := st'.ro
    exact ⟨h', l, star_slp.2 (.inr ⟨bl, cap, slack, a, b, c, d, s'⟩)⟩

/-! cells one after another -/

theorem flat_len {α : Type} {f : α → List Value} {m : Nat} (hf : ∀ a, (f a).length = m) (l : List α) : (l.flatMap f).length = l.length * m := by
  induction l with
  | nil => simp
  | cons a l ih => simp only [List.flatMap_cons, List.length_append, hf, ih, List.length_cons, Nat.add_mul]; omega

theorem sliceL_flat {α : Type} {f : α → List Value} {m : Nat} (hf : ∀ a, (f a).length = m) (l : List α) (i : Nat) (a : α) (h : l[i]? = some a) (slack : List Value) : SliceL (l.flatMap f ++ slack) (i * m) m (f a) := by
  refine ⟨(l.take i).flatMap f, (l.drop (i + 1)).flatMap f ++ slack, ?_, ?_, hf a⟩
  · have hi : i < l.length := by
      rcases Nat.lt_or_ge i l.length with h' | h'
      · exact h'
      · rw [List.getElem?_eq_none h'] at h; cases h
    have ha : l[i] = a := by rw [List.getElem?_eq_getElem hi] at h; exact Option.some.inj h
    have e : l = l.take i ++ (a :: l.drop (i + 1)) := by rw [← ha, ← List.drop_eq_getElem_cons hi, List.take_append_drop]
    conv => lhs; rw [e]
    simp [List.flatMap_append]
  · rw [flat_len hf, List.length_take, Nat.min_eq_left]
    rcases Nat.lt_or_ge i l.length with h' | h'
    · omega
    · rw [List.getElem?_eq_none h'] at h; cases h

abbrev anC (a : Ans) : List Value := [.int .u64 a.seq, .bool a.good]
abbrev pkFl (l : List Pk) : List Value := l.flatMap pkC
abbrev anFl (l : List Ans) : List Value := l.flatMap anC
theorem pkC_len : ∀ p, (pkC p).length = 7 := fun _ => rfl
theorem anC_len : ∀ a, (anC a).length = 2 := fun _ => rfl

theorem find_shift (q : Int) : ∀ (l : List Pk) (i : Nat), find l q i = (find l q 0).map fun x => (i + x.1, x.2) := by
  intro l
  induction l with
  | nil => intro i; rfl
  | cons p l ih =>
    intro i
    simp only [find]
    split
    · rfl
    · rw [ih (i + 1), ih (0 + 1), Option.map_map]
      cases find l q 0 with
      | none => rfl
      | some x => simp [Function.comp]; omega

theorem find_get {q : Int} : ∀ {l : List Pk} {i : Nat} {j : Nat} {p : Pk}, find l q i = some (j, p) → i ≤ j ∧ l[j - i]? = some p ∧ j - i < l.length ∧ p.seq = q := by
  intro l
  induction l with
  | nil => intro i j p h; cases h
  | cons x l ih =>
    intro i j p h
    simp only [find] at h
    split at h
    · cases h; exact ⟨Nat.le_refl _, by simp, by simp, by assumption⟩
    · obtain ⟨a, b, c, d⟩ := ih h
      have e : j - i = (j - (i + 1)) + 1 := by omega
      exact ⟨by omega, by rw [e, List.getElem?_cons_succ]; exact b, by rw [e]; simp; omega, d⟩

/-- What find answers. -/
def rfind (l : List Pk) (q : Int) : Int := match find l q 0 with | none => -1 | some (i, _) => i

theorem rwrap {x : Int} (h : -9223372036854775808 ≤ x ∧ x < 9223372036854775808) : IntKind.wrap .i64 x = x := wIn h.1 h.2

set_option maxHeartbeats 1000000 in
theorem rfind_ok (p : Bool) (s : Value) (l : List Pk) (q : Int) (Γ : List Ch) (hl : l.length < 2 ^ 40) :
    CallsX Try.prog 92 #[s, .int .u64 q] (.pr (SlP p 49 7 s (pkFl l) l.length) :: Γ)
      (fun v Δ => v = .int .i64 (rfind l q) ∧ Ent Δ (.pr (SlP p 49 7 s (pkFl l) l.length) :: Γ)) := by
  refine calls_of_body (args := [s, .int .u64 q]) Try.func92 rfl Try.ntmps92 fun X cs ret => ?_
  refine ex_slp (fun h1 h2 h3 => ?_) (fun b0 cap slack h1 hz => ?_)
  · subst h1
    have h0 : l = [] := List.length_eq_zero_iff.1 h3
    subst h0
    repeat (first|refine zA rfl ?_|refine zG rfl ?_|refine zQ ?_|refine zR ?_|refine zS ?_|refine zZ rfl ?_|refine yC ?_)
    refine ex_loop ?_
    repeat (first|refine zB rfl rfl rfl ?_|refine zG rfl ?_|refine zQ ?_|refine zR ?_|refine zS ?_|refine zV rfl ?_|refine yE rfl ?_)
    exact ex_retc ret Try.func92 rfl ⟨rfl, .star fun h st => star_slp.2 (.inl ⟨rfl, rfl, rfl, slp_none st⟩)⟩
  · subst h1
    repeat (first|refine zA rfl ?_|refine zG rfl ?_|refine zQ ?_|refine zR ?_|refine zS ?_|refine zZ rfl ?_|refine yC ?_)
    refine ex_loop ?_
    refine ex_ind (ι := Nat) (fun i => l.length + 1 - i) (fun i => [(9, .int .i64 i), (8, .int .i64 l.length), (7, .slice (some ⟨b0, 0, none⟩) l.length cap), (1, .int .u64 q)]) (fun _ => .pt b0 p (.cells ⟨pkFl l ++ slack⟩ 49 (0, 0)) :: Γ) (fun i => i ≤ l.length ∧ find l q 0 = find (l.drop i) q i) 0 ⟨Nat.zero_le _, rfl⟩ ⟨rfl, rfl, rfl, rfl, trivial⟩ rfl (fun i hi IH => ?_)
    obtain ⟨hi1, hi2⟩ := hi
    repeat (first|refine zB rfl rfl rfl ?_|refine zQ ?_|refine zR ?_|refine zS ?_)
    refine ex_cond_split rfl (fun h1 => ?_) (fun h1 => ?_)
    · have hlt : i < l.length := by have := of_decide_eq_true h1; omega
      repeat (first|refine zA rfl ?_|refine zR ?_|refine zS ?_|refine yB ?_|refine yC ?_)
      refine rg_indexSl rfl rfl ⟨by omega, by omega⟩ ?_
      rw [Int.toNat_natCast, Nat.zero_add (i * 7)]
      haveI := sliceL_flat pkC_len l i l[i] (List.getElem?_eq_getElem hlt) slack
      refine rg_loadAgg rfl ?_
      repeat (first|refine zA rfl ?_|refine zB rfl rfl rfl ?_|refine zD rfl ?_|refine zF rfl ?_|refine zG rfl ?_|refine zO rfl rfl ?_|refine zQ ?_|refine zR ?_|refine zS ?_|refine zW fun bl=>?_)
      rw [List.drop_eq_getElem_cons hlt] at hi2
      simp only [find] at hi2
      refine ex_cond_split rfl (fun h2 => ?_) (fun h2 => ?_)
      · have h2 := of_decide_eq_true h2
        rw [if_pos h2] at hi2
        repeat (first|refine zA rfl ?_|refine zG rfl ?_|refine zQ ?_|refine zR ?_|refine zS ?_)
        refine ex_rete ret Try.func92 rfl (Ent.drop (EntR.e (slp_fold b0 cap slack hz))) ⟨?_, Ent.refl _⟩
        simp only [packV, rfind, hi2]
      · have h2 := of_decide_eq_false h2
        rw [if_neg h2] at hi2
        repeat (first|refine zA rfl ?_|refine zB rfl rfl rfl ?_|refine zQ ?_|refine zS ?_|refine yB ?_|refine yD ?_)
        refine ex_inLoop ?_
        rw [rwrap (by omega)]
        refine Ex.drop ?_
        exact Ex.sup (IH (i + 1) ⟨by omega, hi2⟩ (by omega)) ⟨rfl, rfl, rfl, rfl, trivial⟩
    · have hge : i = l.length := by have := of_decide_eq_false h1; omega
      repeat (first|refine zG rfl ?_|refine zQ ?_|refine zR ?_|refine zS ?_|refine yE rfl ?_)
      refine ex_rete ret Try.func92 rfl (EntR.e (slp_fold b0 cap slack hz)) ⟨?_, Ent.refl _⟩
      subst hge
      rw [List.drop_length] at hi2
      simp only [packV, rfind, hi2, find]

theorem rdue_ok (p : Pk) (h t : Int) (Γ : List Ch) : CallsX Try.prog 93 #[pkV p, .int .u64 h, .int .u64 t] Γ (fun v Δ => v = .bool (due p h t) ∧ Δ = Γ) := by
  refine calls_of_body (args := [pkV p, .int .u64 h, .int .u64 t]) Try.func93 rfl Try.ntmps93 fun X cs ret => ?_
  refine ex_seq (rg_start_s (rg_boxAgg rfl fun bl => ?_))
  repeat' (first|refine zA rfl ?_|refine zB rfl rfl rfl ?_|refine zE rfl ?_|refine zF rfl ?_|refine zG rfl ?_|refine zK rfl rfl ?_|refine zL rfl rfl rfl rfl (by decide) trivial rfl ?_|refine zM rfl rfl rfl rfl (by decide) trivial rfl ?_|refine zQ ?_|refine zR ?_|refine zS ?_|refine yZ rfl rfl (fun hg=>?_) (fun hg=>?_))
  all_goals
    refine ex_rete ret Try.func93 rfl (Ent.drop (Ent.refl Γ)) ⟨?_, rfl⟩
    simp [packV, due, *]

end Go.Br

namespace Go.Lx
open Go
section
variable {P : Program} {X : Tgt} {b : Base} {n : Nat} {dr : Bool} {ops : Array Oper} {lo : Nat} {ex : List Nat} {fl : Floats} {E : Env} {rem : List Oper} {k : List Item} {cs : List Frame} {Γ Γ' : List Ch}
variable {d : Nat} {T : TypeId} {pos : String} {af : Array Edge} {gd : Option (Nat × Bool)}

/-- A call whose contract says of the heap what entails Γ'. -/
theorem rg_callE {f : FuncId} {args : List Operand} {at' : Array TypeId} {vs : List Value} {v0 : Value} [hb : HasBody P f] (ha : vals E args = some vs) (hc : CallsX P f vs.toArray Γ (fun v Δ => v = v0 ∧ Ent Δ Γ'))
    (e : (dr = false ∨ Reval ops ex lo fl Γ') ∧ Rg P X b n dr ops (lo + 1) ex fl ((d, v0) :: E) rem k cs Γ')
    (hdn : d < n := by decide) (hex : NotYet ex lo := trivial) (hg : GuardOK ops ⟨some d, .call ⟨.value (.func f), ⟨args⟩, at'⟩, T, pos, af, gd⟩ E := by first | exact trivial | exact ⟨_, rfl, rfl⟩)
    (hl : dr = false ∨ chkLast ops lo ex = true := by first | exact .inl rfl | exact .inr (by decide +kernel)) :
    Rg P X b n dr ops lo ex fl E (⟨some d, .call ⟨.value (.func f), ⟨args⟩, at'⟩, T, pos, af, gd⟩ :: rem) k cs Γ :=
  rg_loud (φ := fun v Δ => v = v0 ∧ Δ = Γ') (fun d' e => by cases e; exact hdn) hex hg hl (fun b R ops i l k cs h ho hw hρ st e' => does_call ha (hc X) b R ops i l k cs h ho hw hρ st fun v Δ h' ⟨hv, hE⟩ s' => by
    obtain ⟨h'', le, s''⟩ := hE h' s'
    exact (e' v Γ' h'' ⟨hv, rfl⟩ s'').mono le) (by rintro v Δ ⟨rfl, rfl⟩; exact e)
end
end Go.Lx
namespace Go.Br
open Go Go.Lx Go.Proofs
set_option maxRecDepth 100000

abbrev stC (x : Stp) : List Value := [.int .i64 x.kind, .int .u64 x.n, .int .u64 x.p.seq, .int .i64 x.p.frm, .int .i64 x.p.to, .int .i64 x.p.coin, .int .u64 x.p.amount, .int .u64 x.p.height, .int .u64 x.p.time]

theorem pk_one {l : List Pk} : ∀ v ∈ pkFl l, oneC v = true := fun v hv => by
  obtain ⟨p, _, h⟩ := List.mem_flatMap.1 hv
  simp only [pkC, List.mem_cons, List.not_mem_nil, or_false] at h
  rcases h with rfl | rfl | rfl | rfl | rfl | rfl | rfl <;> rfl

theorem isUser_eq (u : Int) : isUser u = false ↔ (u < 0 ∨ 2 < u) := by
  simp only [isUser, Bool.and_eq_false_iff, decide_eq_false_iff_not]; omega

theorem len_snoc {α : Type} (l : List α) (q : α) : (l ++ [q]).length = l.length + 1 := by simp

theorem slp_none' {p : Bool} {el m : Nat} {Γ : List Ch} : Ent Γ (.pr (SlP p el m (.slice none 0 0) [] 0) :: Γ) := .star fun h st => star_slp.2 (.inl ⟨rfl, rfl, rfl, slp_none st⟩)

theorem sliceL_flatK {α : Type} {f : α → List Value} {m : Nat} (hf : ∀ a, (f a).length = m) (l : List α) (i : Nat) (hi : i < l.length) (slack : List Value) : SliceL (l.flatMap f ++ slack) (i * m) m (f l[i]) := sliceL_flat hf l i _ (List.getElem?_eq_getElem hi) slack

theorem slp_shape {p : Bool} {el m : Nat} {s : Value} {xs : List Value} {len : Nat} {h : LH} (v : SlP p el m s xs len h) : ∃ a cap, s = .slice a len cap := by
  rcases v with ⟨h1, _, h3⟩ | ⟨bl, cap, _, h1, _⟩
  · exact ⟨none, 0, by rw [h1, h3]⟩
  · exact ⟨_, cap, h1⟩

theorem slp_shapeO {p : Bool} {el m : Nat} {s : Value} {xs : List Value} {len : Nat} {Γ : List Ch} : ∀ h, Star (.pr (SlP p el m s xs len) :: Γ) h → ∃ w : Option Addr × Nat, s = .slice w.1 len w.2 ∧ Star (.pr (SlP p el m s xs len) :: Γ) h := fun h st => by
  obtain ⟨h1, h2, j, v1, st'⟩ := id st
  obtain ⟨a1, k1, e1⟩ := slp_shape v1
  exact ⟨(a1, k1), e1, st⟩

end Go.Br

namespace Go.Br
open Go

/-- What was sent: the packet as it was given; what its receiver has answered (0: not yet; 1: credited; 2: not); whether it is pending. -/
structure Rec where
  p : Pk
  ans : Int
  pend : Bool

def pendL : List Rec → Nat → List Pk
  | [], _ => []
  | x :: r, i => if x.pend = true then { x.p with seq := (i : Int) + 1 } :: pendL r (i + 1) else pendL r (i + 1)

def updR (f : Rec → Rec) : List Rec → Nat → List Rec
  | [], _ => []
  | x :: r, 0 => f x :: r
  | x :: r, n + 1 => x :: updR f r n

def wt (X : Int) (x : Rec) : Int := if x.p.coin = X ∧ x.pend = true ∧ x.ans ≠ 1 then x.p.amount else 0
def under (X : Int) : List Rec → Int
  | [] => 0
  | x :: r => wt X x + under X r

theorem updR_len (f : Rec → Rec) : ∀ (r : List Rec) (j : Nat), (updR f r j).length = r.length
  | [], _ => rfl
  | _ :: _, 0 => rfl
  | _ :: r, j + 1 => by simp [updR, updR_len f r j]

theorem updR_get (f : Rec → Rec) : ∀ (r : List Rec) (j i : Nat), (updR f r j)[i]? = if i = j then (r[i]?).map f else r[i]?
  | [], _, _ => by simp [updR]
  | _ :: _, 0, 0 => by simp [updR]
  | _ :: _, 0, i + 1 => by simp [updR]
  | _ :: _, j + 1, 0 => by simp [updR]
  | _ :: r, j + 1, i + 1 => by simp [updR, updR_get f r j i]

theorem under_upd (X : Int) (f : Rec → Rec) : ∀ (r : List Rec) (j : Nat) (x : Rec), r[j]? = some x → under X (updR f r j) = under X r - wt X x + wt X (f x)
  | [], _, _, h => by simp at h
  | y :: r, 0, x, h => by simp at h; subst h; simp only [updR, under]; omega
  | y :: r, j + 1, x, h => by
    have := under_upd X f r j x (by simpa using h)
    simp only [updR, under]; omega

theorem under_snoc (X : Int) (x : Rec) : ∀ r, under X (r ++ [x]) = under X r + wt X x
  | [] => by simp [under]
  | y :: r => by simp only [List.cons_append, under, under_snoc X x r]; omega

theorem under_nonneg (X : Int) : ∀ r : List Rec, (∀ x ∈ r, 0 ≤ x.p.amount) → 0 ≤ under X r
  | [], _ => by simp [under]
  | x :: r, h => by
    have h1 := under_nonneg X r fun y hy => h y (List.mem_cons_of_mem _ hy)
    have h2 := h x (List.mem_cons_self ..)
    simp only [under, wt]; split <;> omega

theorem pendL_snoc (x : Rec) : ∀ (r : List Rec) (i : Nat), pendL (r ++ [x]) i = pendL r i ++ (if x.pend = true then [{ x.p with seq := (i + r.length : Nat) + 1 }] else [])
  | [], i => by simp [pendL]
  | y :: r, i => by
    simp only [List.cons_append, pendL, pendL_snoc x r (i + 1), List.length_cons]
    rw [show i + 1 + r.length = i + (r.length + 1) by omega]
    split <;> simp

theorem pendL_mem {q : Pk} : ∀ {r : List Rec} {i : Nat}, q ∈ pendL r i → ∃ (j : Nat) (x : Rec), r[j]? = some x ∧ x.pend = true ∧ q = { x.p with seq := ((i + j : Nat) : Int) + 1 }
  | [], _, h => by cases h
  | y :: r, i, h => by
    simp only [pendL] at h
    split at h
    · rename_i hp
      rcases List.mem_cons.1 h with h | h
      · exact ⟨0, y, rfl, hp, by simpa using h⟩
      · obtain ⟨j, x, h1, h2, h3⟩ := pendL_mem h
        exact ⟨j + 1, x, by simpa using h1, h2, by rw [h3, show i + (j + 1) = i + 1 + j by omega]⟩
    · obtain ⟨j, x, h1, h2, h3⟩ := pendL_mem h
      exact ⟨j + 1, x, by simpa using h1, h2, by rw [h3, show i + (j + 1) = i + 1 + j by omega]⟩

theorem pendL_upd {f : Rec → Rec} (hf : ∀ x, (f x).p = x.p ∧ (f x).pend = x.pend) : ∀ (r : List Rec) (j i : Nat), pendL (updR f r j) i = pendL r i
  | [], _, _ => rfl
  | x :: r, 0, i => by simp only [updR, pendL, (hf x).1, (hf x).2]
  | x :: r, j + 1, i => by simp only [updR, pendL, pendL_upd hf r j (i + 1)]

abbrev unp (x : Rec) : Rec := { x with pend := false }

theorem find_pend {q : Int} : ∀ {r : List Rec} {i k k' : Nat} {p : Pk}, find (pendL r i) q k = some (k', p) →
    ∃ (j : Nat) (x : Rec), r[j]? = some x ∧ x.pend = true ∧ q = ((i + j : Nat) : Int) + 1 ∧ p = { x.p with seq := ((i + j : Nat) : Int) + 1 } ∧ k ≤ k' ∧ (pendL r i).eraseIdx (k' - k) = pendL (updR unp r j) i ∧
      (k' = k → ∀ j' y, j' < j → r[j']? = some y → y.pend = false)
  | [], _, _, _, _, h => by cases h
  | y :: r, i, k, k', p, h => by
    simp only [pendL] at h
    split at h
    · rename_i hp
      simp only [find] at h
      split at h
      · rename_i hq
        cases h
        refine ⟨0, y, rfl, hp, by simpa using hq.symm, by simp, Nat.le_refl _, ?_, fun _ j' _ hj => absurd hj (by omega)⟩
        simp [pendL, hp, updR]
      · obtain ⟨j, x, h1, h2, h3, h4, h5, h6, h7⟩ := find_pend h
        refine ⟨j + 1, x, by simpa using h1, h2, by rw [h3]; simp; omega, by rw [h4, show i + (j + 1) = i + 1 + j by omega], by omega, ?_, fun e => by omega⟩
        rw [show k' - k = (k' - (k + 1)) + 1 by omega]
        simp only [pendL, hp, if_true, updR, List.eraseIdx_cons_succ, h6]
    · rename_i hp
      obtain ⟨j, x, h1, h2, h3, h4, h5, h6, h7⟩ := find_pend h
      refine ⟨j + 1, x, by simpa using h1, h2, by rw [h3]; simp; omega, by rw [h4, show i + (j + 1) = i + 1 + j by omega], h5, ?_, fun e j' z hj hz => ?_⟩
      · simp only [pendL, updR]
        rw [if_neg hp, if_neg hp]; exact h6
      · cases j' with
        | zero => simp at hz; subst hz; simpa using hp
        | succ j' => exact h7 e j' z (by omega) (by simpa using hz)

/-- What is pending is found. -/
theorem pend_find : ∀ {r : List Rec} {i k j : Nat} {x : Rec}, r[j]? = some x → x.pend = true → ∃ k', find (pendL r i) (((i + j : Nat) : Int) + 1) k = some (k', { x.p with seq := ((i + j : Nat) : Int) + 1 }) ∧
    ((∀ j' y, j' < j → r[j']? = some y → y.pend = false) → k' = k)
  | [], _, _, _, _, h, _ => by simp at h
  | y :: r, i, k, 0, x, h, hp => by
    simp at h; subst h
    exact ⟨k, by simp [pendL, hp, find], fun _ => rfl⟩
  | y :: r, i, k, j + 1, x, h, hp => by
    by_cases hy : y.pend = true
    · obtain ⟨k', h1, h2⟩ := pend_find (r := r) (i := i + 1) (k := k + 1) (j := j) (x := x) (by simpa using h) hp
      refine ⟨k', ?_, fun hz => ?_⟩
      · simp only [pendL, hy, if_true, find]
        rw [if_neg (by show ¬ ((i : Int) + 1 = _); omega), show i + (j + 1) = i + 1 + j by omega]
        exact h1
      · have := hz 0 y (by omega) rfl
        rw [hy] at this; cases this
    · obtain ⟨k', h1, h2⟩ := pend_find (r := r) (i := i + 1) (k := k) (j := j) (x := x) (by simpa using h) hp
      refine ⟨k', ?_, fun hz => h2 fun j' z hj hzz => hz (j' + 1) z (by omega) (by simpa using hzz)⟩
      simp only [pendL, hy]
      rw [show i + (j + 1) = i + 1 + j by omega]
      exact h1

theorem due_mono {p : Pk} {h t h' t' : Int} (d : due p h t = true) (hh : h ≤ h') (ht : t ≤ t') : due p h' t' = true := by
  simp only [due, Bool.or_eq_true, Bool.and_eq_true, decide_eq_true_eq] at d ⊢
  omega

end Go.Br

namespace Go.Br
open Go

/-- Headers are not later than the chain; one that is closed stays so. -/
structure Mono (s : Cn) : Prop where
  mono : ∀ h ∈ s.heads, h.height ≤ s.hd.height ∧ h.time ≤ s.hd.time ∧ (h.opn = false → s.hd.opn = false)

/-- From one chain (s) to the other (o): r: what was sent. -/
structure Dir (s o : Cn) (r : List Rec) : Prop where
  ns : s.nsend = r.length + 1
  pk : s.hd.packets = pendL r 0
  hp : ∀ h ∈ s.heads, ∀ q ∈ h.packets, ∃ (i : Nat) (x : Rec), r[i]? = some x ∧ q = { x.p with seq := (i : Int) + 1 }
  rl : o.hd.answers.length ≤ r.length
  an : ∀ (i : Nat) (x : Rec), r[i]? = some x → x.ans = (if i < o.hd.answers.length then (if isUser x.p.to = true then 1 else 2) else 0)
  gd : ∀ (i : Nat) (x : Rec) (a : Ans), r[i]? = some x → o.hd.answers[i]? = some a → a.good = isUser x.p.to
  ha : ∀ h ∈ o.heads, ∃ l, o.hd.answers = h.answers ++ l
  J : ∀ h ∈ o.heads, ∀ (i : Nat) (x : Rec), r[i]? = some x → h.answers.length ≤ i → i < o.hd.answers.length → due x.p h.height h.time = false ∧ h.opn = true
  K : ∀ (i : Nat) (x : Rec), r[i]? = some x → x.pend = false → o.hd.answers.length ≤ i → o.hd.opn = false ∨ due x.p o.hd.height o.hd.time = true
  amt : ∀ x ∈ r, 0 < x.p.amount ∧ (0 ≤ x.p.frm ∧ x.p.frm < 3) ∧ (x.p.coin = 0 ∨ x.p.coin = 1)

def hasSum (s : Cn) (X : Int) : Int := s.has 0 X + s.has 1 X + s.has 2 X

/-- Coins: T of each. -/
structure Money (T : Int) (s o : Cn) (rs ro : List Rec) : Prop where
  pos : ∀ u X, 0 ≤ s.has u X ∧ 0 ≤ o.has u X
  tot : ∀ X, (X = 0 ∨ X = 1) → hasSum s X + hasSum o X + under X rs + under X ro = T
  lockS : s.locked + hasSum s s.n = T
  abtS : s.about = hasSum s (1 - s.n)
  lockO : o.locked + hasSum o o.n = T
  abtO : o.about = hasSum o (1 - o.n)

theorem Money.swap {T : Int} {s o : Cn} {rs ro : List Rec} (m : Money T s o rs ro) : Money T o s ro rs :=
  ⟨fun u X => (m.pos u X).symm, fun X h => by have := m.tot X h; omega, m.lockO, m.abtO, m.lockS, m.abtS⟩

structure Link (T : Int) (s o : Cn) (rs ro : List Rec) : Prop where
  ds : Dir s o rs
  dr : Dir o s ro
  ms : Mono s
  mo : Mono o
  n : (s.n = 0 ∧ o.n = 1) ∨ (s.n = 1 ∧ o.n = 0)
  mon : Money T s o rs ro

theorem Link.swap {T : Int} {s o : Cn} {rs ro : List Rec} (l : Link T s o rs ro) : Link T o s ro rs :=
  ⟨l.dr, l.ds, l.mo, l.ms, l.n.symm.imp And.symm And.symm, l.mon.swap⟩

/-! coins -/

theorem three' {u : Int} (h : 0 ≤ u ∧ u < 3) : u = 0 ∨ u = 1 ∨ u = 2 := by omega

theorem hasSum_set (s : Cn) (u c x X : Int) (hu : 0 ≤ u ∧ u < 3) (f : Cn) (hf : f.has = setHas s.has u c x) : hasSum f X = if X = c then hasSum s X - s.has u c + x else hasSum s X := by
  unfold hasSum
  rw [hf]
  unfold setHas
  by_cases hX : X = c
  · subst hX
    rcases three' hu with rfl | rfl | rfl <;> simp <;> omega
  · simp [hX]

theorem has_le {s : Cn} (hp : ∀ u X, 0 ≤ s.has u X) {u X : Int} (hu : 0 ≤ u ∧ u < 3) : s.has u X ≤ hasSum s X := by
  unfold hasSum
  have h0 := hp 0 X; have h1 := hp 1 X; have h2 := hp 2 X
  rcases three' hu with rfl | rfl | rfl <;> omega

theorem hasSum_nonneg {s : Cn} (hp : ∀ u X, 0 ≤ s.has u X) (X : Int) : 0 ≤ hasSum s X := by
  unfold hasSum
  have h0 := hp 0 X; have h1 := hp 1 X; have h2 := hp 2 X
  omega

/-- Coins come to an account: they were under way. -/
theorem money_credit {T : Int} {s s' o : Cn} {rs ro rs' ro' : List Rec} {u c x : Int} (hT : T < 1000000) (m : Money T s o rs ro) (hn : (s.n = 0 ∧ o.n = 1) ∨ (s.n = 1 ∧ o.n = 0)) (hu : 0 ≤ u ∧ u < 3) (hc : c = 0 ∨ c = 1) (hx : 0 ≤ x)
    (pr : ∀ X, 0 ≤ under X rs) (po : ∀ X, 0 ≤ under X ro) (hr : ∀ X, 0 ≤ under X rs' ∧ 0 ≤ under X ro')
    (hw : ∀ X, under X rs' + under X ro' = under X rs + under X ro - (if X = c then x else 0))
    (e1 : s'.has = (credit s u c x).has) (e2 : s'.locked = (credit s u c x).locked) (e3 : s'.about = (credit s u c x).about) (e4 : s'.n = s.n) : Money T s' o rs' ro' := by
  have hps := fun u X => (m.pos u X).1
  have hpo := fun u X => (m.pos u X).2
  have t := m.tot c hc
  have w := hw c
  rw [if_pos rfl] at w
  have s0 := hasSum_nonneg hps
  have o0 := hasSum_nonneg hpo
  have hle := has_le hps (X := c) hu
  have r1 := hr c; have r2 := pr c; have r3 := po c
  have a1 := s0 c; have a2 := o0 c; have a3 := hps u c
  have hb : wu (s.has u c + x) = s.has u c + x := wu_id (by omega)
  have hh : s'.has = setHas s.has u c (s.has u c + x) := by rw [e1]; show setHas s.has u c (wu (s.has u c + x)) = _; rw [hb]
  have hs := fun X => hasSum_set s u c (s.has u c + x) X hu s' hh
  have lS := m.lockS; have aS := m.abtS; have lO := m.lockO; have aO := m.abtO
  refine ⟨fun u' X => ⟨?_, hpo u' X⟩, fun X hX => ?_, ?_, ?_, lO, aO⟩
  · rw [hh]; unfold setHas; split
    · omega
    · exact hps u' X
  · have := m.tot X hX; have := hw X; rw [hs X]
    split <;> rename_i h
    · rw [if_pos h] at this; subst h; omega
    · rw [if_neg h] at this; omega
  · rw [e2, e4, hs s.n]
    show (if c = s.n then wu (s.locked - x) else s.locked) + _ = _
    by_cases h : c = s.n
    · rw [if_pos h, if_pos h.symm, wu_id (by rw [← h] at lS; have := aO; have h2 : o.about = hasSum o c := by rw [aO]; congr 1; omega
                                             rw [← h] at *; omega), ← h]
      rw [← h] at lS; omega
    · rw [if_neg h, if_neg (fun e => h e.symm)]; exact lS
  · rw [e3, e4, hs (1 - s.n)]
    show (if c = s.n then s.about else wu (s.about + x)) = _
    by_cases h : c = s.n
    · rw [if_pos h, if_neg (by omega)]; exact aS
    · have h2 : c = 1 - s.n := by omega
      rw [if_neg h, if_pos h2.symm, aS, ← h2, wu_id (by omega)]; omega

end Go.Br
