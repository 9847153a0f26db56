/-
  Lemmas towards the law, proved without conditions of their own: KEEP: begin: a new world; a small one is tried; THE LOGIC, FIFTEENTH PART: array literals; pointers and structs that differ. No condition; KEEP: Known: one long run of a bridge, with each error, and a short one: closed.
-/
import Derived.Test.YtedaknlacigbhaaPk22
import Derived.Test.YtedaknlacigbhaaPk07
import Derived.Test.YtedaknlacigbhaaPk21
namespace Go.Br
open Go Go.Lx Go.Proofs
open Go.Lx renaming rg_move → zA, rg_int → zB, rg_nilCheck → zC, rg_fieldAddr0 → zD, rg_fieldAddr → zE, rg_load → zF, rg_assign → zG, rg_loadAgg → zH, rg_extract → zI, rg_not → zJ, rg_pick → zK, rg_off → zL, rg_offU → zM, rg_store → zN, rg_storeAgg → zO, rg_convInt → zP, rg_done → zQ, ex_seq → zR, rg_start_s → zS, rg_start_d → zT, ex_cond_true → zU, ex_cond_false → zV, rg_alloc → zW, rg_boxAgg → zX, rg_build → zY, rg_lenSl → zZ, rg_lenMap → yA, ex_skip → yB, ex_block → yC, ex_inBlock → yD, ex_exit → yE, rg_caseG → yZ
set_option maxRecDepth 100000

abbrev tS1 : Stp := ⟨1, 0, ⟨0, 1, 2, 0, 3, 9, 0⟩⟩
abbrev tS2 : Stp := ⟨2, 0, ⟨0, 0, 0, 0, 0, 0, 0⟩⟩
abbrev tS3 : Stp := ⟨3, 1, ⟨0, 0, 0, 0, 0, 0, 0⟩⟩
abbrev tS4 : Stp := ⟨4, 1, ⟨0, 0, 0, 0, 0, 0, 0⟩⟩
def tB1 : Bg := (bgDo (bgNew 5) 0 tS1).1
def tB2 : Bg := (bgDo tB1 0 tS2).1
def tB3 : Bg := (bgDo tB2 1 tS3).1
def tB4 : Bg := (bgDo tB3 1 tS4).1
theorem tE1 : (bgDo (bgNew 5) 0 tS1).2 = (1, 0) := by decide +kernel
theorem tE2 : (bgDo tB1 0 tS2).2 = (0, 0) := by decide +kernel
theorem tE3 : (bgDo tB2 1 tS3).2 = (0, 0) := by decide +kernel
theorem tE4 : (bgDo tB3 1 tS4).2 = (0, 0) := by decide +kernel
theorem tH0 : bgBal tB4 0 1 0 = 2 := by decide +kernel
theorem tH1 : bgBal tB4 1 2 0 = 3 := by decide +kernel
theorem tO1 : BgOk 2 tB1 := bgStep_keeps (newOk 5 (by decide)) (by decide) 0 tS1 (by decide) _ (Nat.le_refl _)
theorem tO2 : BgOk 3 tB2 := bgStep_keeps tO1 (by decide) 0 tS2 (by decide) _ (Nat.le_refl _)
theorem tO3 : BgOk 4 tB3 := bgStep_keeps tO2 (by decide) 1 tS3 (by decide) _ (Nat.le_refl _)
theorem tO4 : BgOk 5 tB4 := bgStep_keeps tO3 (by decide) 1 tS4 (by decide) _ (Nat.le_refl _)

theorem Do_at (b : Nat) (S : Bg) (c : Int) (x : Stp) (B : Nat) (Γ : List Ch) (ok : BgOk B S) (hB : B < 100000000) (hx : 0 ≤ x.n ∧ x.n < 18446744073709551616) (S' : Bg) (n e : Int) (h : bgDo S c x = (S', n, e)) :
    CallsX Try.prog 22 #[ptrV b, .int .i64 c, stV x] (.pr (BgAt b S) :: Γ) (fun v Δ => v = .tuple #[.int .u64 n, .int .i64 e] ∧ Ent Δ (.pr (BgAt b S') :: Γ)) := by
  have e := Do_bg b S c x B Γ ok hB hx
  rw [h] at e; exact e

theorem Bal_at (b : Nat) (S : Bg) (c u co : Int) (B : Nat) (Γ : List Ch) (ok : BgOk B S) (hB : B < 100000000) (n : Int) (h : bgBal S c u co = n) :
    CallsX Try.prog 30 #[ptrV b, .int .i64 c, .int .i64 u, .int .i64 co] (.pr (BgAt b S) :: Γ) (fun v Δ => v = .int .u64 n ∧ Ent Δ (.pr (BgAt b S) :: Γ)) := by
  have e := Balance_bg b S c u co B Γ ok hB
  rw [h] at e; exact e

abbrev kvNil : KV := ⟨.slice none 0 0, .slice none 0 0, .slice none 0 0, .slice none 0 0, .slice none 0 0, .slice none 0 0⟩
theorem kw_new {w b : Nat} {S : Bg} {Γ : List Ch} : Ent (kwC w b kvNil :: .pr (BgAt b S) :: Γ) (.pr (KwAt w S [] []) :: Γ) := by
  refine Ent.trans ?_ (EntR.e (kw_fold (b := b) (v := kvNil)))
  refine Ent.cons (Ent.trans slp_none' (Ent.cons (Ent.trans slp_none' (Ent.cons (Ent.trans slp_none' (Ent.cons (Ent.trans slp_none' (Ent.cons (Ent.trans slp_none' (Ent.cons (Ent.trans slp_none' (Ent.cons (Ent.refl _)))))))))))))

set_option maxHeartbeats 4000000 in
theorem begin_ok (Γ : List Ch) :
    CallsX Try.prog 17 #[] Γ (fun v Δ => ∃ w, v = .tuple #[ptrV w, .bool true] ∧ Ent Δ (.pr (KwAt w (bgNew 1000) [] []) :: Γ)) := by
  refine calls_of_body (args := []) Try.func17 rfl Try.ntmps17 fun X cs ret => ?_
  refine ex_seq (rg_start_s ?_)
  repeat (first|refine zG rfl ?_|refine zQ ?_|refine zR ?_|refine zS ?_)
  refine rg_call rfl (New_bg 1000 Γ (by decide)) ?_
  rintro _ D ⟨b1, rfl, hE⟩
  refine ⟨.inl rfl, Rg.ent hE ?_⟩
  repeat (first|refine zA rfl ?_|refine zG rfl ?_|refine zI rfl rfl ?_|refine zQ ?_|refine zR ?_|refine zS ?_)
  refine rg_call rfl (New_bg 5 _ (by decide)) ?_
  rintro _ D ⟨b2, rfl, hE⟩
  refine ⟨.inl rfl, Rg.ent hE ?_⟩
  repeat (first|refine zA rfl ?_|refine zG rfl ?_|refine zI rfl rfl ?_|refine zQ ?_|refine zR ?_|refine zS ?_)
  refine rg_eqPtrNil rfl rfl ?_
  repeat refine zA rfl ?_
  refine rg_eqPtrNil rfl rfl ?_
  repeat (first|refine zA rfl ?_|refine zB rfl rfl rfl ?_|refine zK rfl rfl ?_|refine zQ ?_|refine zR ?_|refine zS ?_|refine zV rfl ?_|refine zY rfl ?_|refine yB ?_)
  refine rg_callE rfl (Do_at b2 (bgNew 5) 0 tS1 1 _ (newOk 5 (by decide)) (by decide) (by decide) tB1 1 0 (Prod.ext rfl tE1)) ?_
  refine ⟨.inl rfl, ?_⟩
  repeat (first|refine zA rfl ?_|refine zG rfl ?_|refine zI rfl rfl ?_|refine zQ ?_|refine zR ?_|refine zS ?_|refine zY rfl ?_)
  refine rg_callE rfl (Do_at b2 tB1 0 tS2 2 _ tO1 (by decide) (by decide) tB2 0 0 (Prod.ext rfl tE2)) ?_
  refine ⟨.inl rfl, ?_⟩
  repeat (first|refine zA rfl ?_|refine zG rfl ?_|refine zI rfl rfl ?_|refine zQ ?_|refine zR ?_|refine zS ?_|refine zY rfl ?_)
  refine rg_callE rfl (Do_at b2 tB2 1 tS3 3 _ tO2 (by decide) (by decide) tB3 0 0 (Prod.ext rfl tE3)) ?_
  refine ⟨.inl rfl, ?_⟩
  repeat (first|refine zA rfl ?_|refine zG rfl ?_|refine zI rfl rfl ?_|refine zQ ?_|refine zR ?_|refine zS ?_|refine zY rfl ?_)
  refine rg_callE rfl (Do_at b2 tB3 1 tS4 4 _ tO3 (by decide) (by decide) tB4 0 0 (Prod.ext rfl tE4)) ?_
  refine ⟨.inl rfl, ?_⟩
  repeat (first|refine zA rfl ?_|refine zB rfl rfl rfl ?_|refine zG rfl ?_|refine zI rfl rfl ?_|refine zK rfl rfl ?_|refine zQ ?_|refine zR ?_|refine zS ?_|refine zX rfl fun bl=>?_|refine zY rfl ?_)
  (refine Rg.front 2 ?_; refine Rg.front 1 ?_; refine Rg.front 2 ?_)
  refine rg_callE rfl (Bal_at b2 tB4 0 1 0 5 _ tO4 (by decide) 2 tH0) ?_
  refine ⟨.inl rfl, ?_⟩
  repeat (first|refine zA rfl ?_|refine zB rfl rfl rfl ?_|refine zK rfl rfl ?_)
  refine rg_callE rfl (Bal_at b2 tB4 1 2 0 5 _ tO4 (by decide) 3 tH1) ?_
  refine ⟨.inl rfl, ?_⟩
  repeat (first|refine zB rfl rfl rfl ?_|refine zG rfl ?_|refine zK rfl rfl ?_|refine zQ ?_)
  exact ex_rete ret Try.func17 rfl (Ent.drop (Ent.refl _)) ⟨_, rfl, kw_new⟩

theorem kOk_new : KOk 1 (bgNew 1000) [] [] := ⟨newOk 1000 (by decide), link_new 1000 (by decide)⟩

end Go.Br

namespace Go.Lx
open Go

section
variable {P : Program} {X : Tgt} {b : Base} {n : Nat} {dr : Bool} {ops : Array Oper} {lo : Nat} {ex : List Nat} {fl : Floats} {E : Env} {rem : List Oper} {k : List Item} {cs : List Frame} {Γ : List Ch}
variable {d : Nat} {T : TypeId} {pos : String} {af : Array Edge} {gd : Option (Nat × Bool)}

theorem rg_buildArr {t el m sz : Nat} {z l : List Value} {parts : List (Nat × Operand)} {vs : List Value} [u : Under P t (.array m el)] [c : CellsOf P el sz] [zz : ZeroOf P t (.agg ⟨z⟩)] (hp : partsV E parts = some (enumV 0 vs)) (hz : z.length = vs.length * sz)
    (hc : vs.all (fun v => v.cells.size == sz) = true) (hl : flatC vs = l) (e : Rg P X b n dr ops (lo + 1) ex fl ((d, .agg ⟨l⟩) :: E) rem k cs Γ)
    (hdn : d < n := by decide) (hex : NotYet ex lo := trivial) (hg : GuardOK ops ⟨some d, .build t ⟨parts⟩, T, pos, af, gd⟩ E := by first | exact trivial | exact ⟨_, rfl, rfl⟩) :
    Rg P X b n dr ops lo ex fl E (⟨some d, .build t ⟨parts⟩, T, pos, af, gd⟩ :: rem) k cs Γ :=
  rg_pure rfl hdn hex rfl hg (fun _ ρ h hρ _ => by
    have hpm := partsV_map parts _ (fun x hx => hρ x (by simpa [Op.operands] using hx)) hp
    obtain ⟨i, i1, i2⟩ := zz.eq
    obtain ⟨ci, c1, c2⟩ := c.size
    simp only [execOp, wpE_bind', Instr.build, wpE_zeroValue i1 i2, wpE_underlying u.eq, wpE_sizeOf c1, c2]
    have hcs : ∀ v ∈ vs, v.cells.toList.length = sz := fun v hv => by have := List.all_eq_true.1 hc v hv; simpa using this
    have hfs := fill_seq (m := sz) vs 0 [] z (by simp) hz hcs
    have hparts : (Array.map (fun (x : Nat × Operand) => (x.1, ρ x.2)) ⟨parts⟩).toList = enumV 0 vs := by simpa using hpm
    have hzc : (Value.agg ⟨z⟩).cells = ⟨[] ++ z⟩ := rfl
    rw [hparts, hzc, hfs]
    simp only [wpE_pure, List.nil_append, hl, nxv, and_self]) e

theorem rg_neqPtrNil {t t' el : TypeId} {x y : Operand} {a : Option Addr} [uu : Under P t (.pointer el)] (hx : Env.val E x = some (.pointer a)) (hy : Env.val E y = some (.pointer none))
    (e : Rg P X b n dr ops (lo + 1) ex fl ((d, .bool (!a.isNone)) :: E) rem k cs Γ)
    (hdn : d < n := by decide) (hex : NotYet ex lo := trivial) (hg : GuardOK ops ⟨some d, .binOp .neq t x y t', T, pos, af, gd⟩ E := by first | exact trivial | exact ⟨_, rfl, rfl⟩) :
    Rg P X b n dr ops lo ex fl E (⟨some d, .binOp .neq t x y t', T, pos, af, gd⟩ :: rem) k cs Γ :=
  rg_pure rfl hdn hex rfl hg (fun _ ρ h hρ _ => by
    have h1 := hρ x (by simp [Op.operands]) _ hx
    have h2 := hρ y (by simp [Op.operands]) _ hy
    simp only [execOp, wpE_bind', h1, h2]
    refine wpE_eqGuard_pointer ?_
    show wpE P (do pure (Value.bool (!(← Op.equalIn (9999 + 1) t (.pointer a) (.pointer none))))) _ h
    rw [wpE_bind', Op.equalIn, wpE_bind', wpE_underlying uu.eq]
    cases a <;> exact ⟨rfl, rfl⟩) e

/-- A struct against a struct. -/
theorem rg_neqAgg {t t' : TypeId} {x y : Operand} {us vs : List Value} {fs : List Field} {rs : List Bool} (hx : Env.val E x = some (.agg ⟨us⟩)) (hy : Env.val E y = some (.agg ⟨vs⟩)) (hu : P.underlying t = some (.struct ⟨fs⟩)) (hs : P.stoodInHeld t = false) (hge : P.eqGuardType P.depth t = false)
    (hf : EqFs P 9999 ⟨us⟩ ⟨vs⟩ fs rs) (e : Rg P X b n dr ops (lo + 1) ex fl ((d, .bool (!rs.all id)) :: E) rem k cs Γ)
    (hdn : d < n := by decide) (hex : NotYet ex lo := trivial) (hg : GuardOK ops ⟨some d, .binOp .neq t x y t', T, pos, af, gd⟩ E := by first | exact trivial | exact ⟨_, rfl, rfl⟩) :
    Rg P X b n dr ops lo ex fl E (⟨some d, .binOp .neq t x y t', T, pos, af, gd⟩ :: rem) k cs Γ :=
  rg_pure rfl hdn hex rfl hg (fun _ ρ h hρ _ => by
    have h1 := hρ x (by simp [Op.operands]) _ hx
    have h2 := hρ y (by simp [Op.operands]) _ hy
    simp only [execOp, wpE_bind', h1, h2]
    refine wpE_eqGuard_agg hge ?_
    show wpE P (do pure (Value.bool (!(← Op.equalIn (9999 + 1) t (.agg ⟨us⟩) (.agg ⟨vs⟩))))) _ h
    rw [wpE_bind']
    exact wpE_eqStruct hu hs hf ⟨rfl, rfl⟩) e
end
end Go.Lx

namespace Go.Br
open Go Go.Lx Go.Proofs
open Go.Lx renaming rg_move → zA, rg_int → zB, rg_nilCheck → zC, rg_fieldAddr0 → zD, rg_fieldAddr → zE, rg_load → zF, rg_assign → zG, rg_loadAgg → zH, rg_extract → zI, rg_not → zJ, rg_pick → zK, rg_off → zL, rg_offU → zM, rg_store → zN, rg_storeAgg → zO, rg_convInt → zP, rg_done → zQ, ex_seq → zR, rg_start_s → zS, rg_start_d → zT, ex_cond_true → zU, ex_cond_false → zV, rg_alloc → zW, rg_boxAgg → zX, rg_build → zY, rg_lenSl → zZ, rg_lenMap → yA, ex_skip → yB, ex_block → yC, ex_inBlock → yD, ex_exit → yE, rg_caseG → yZ
set_option maxRecDepth 100000

structure DoX where
  c : Int
  s : Stp
  n : Int
  e : Int

abbrev doC (x : DoX) : List Value := [.int .i64 x.c, .int .i64 x.s.kind, .int .u64 x.s.n, .int .u64 x.s.p.seq, .int .i64 x.s.p.frm, .int .i64 x.s.p.to, .int .i64 x.s.p.coin, .int .u64 x.s.p.amount, .int .u64 x.s.p.height, .int .u64 x.s.p.time, .int .u64 x.n, .int .i64 x.e]
theorem doC_len : ∀ x, (doC x).length = 12 := fun _ => rfl
abbrev doV (x : DoX) : Value := .agg ⟨doC x⟩

/-- The steps' results are those that are told. -/
def chkD (S : Bg) : List DoX → Bool
  | [] => true
  | x :: l => decide (0 ≤ x.s.n ∧ x.s.n < 18446744073709551616) && decide ((bgDo S x.c x.s).2 = (x.n, x.e)) && chkD (bgDo S x.c x.s).1 l
def finD (S : Bg) : List DoX → Bg
  | [] => S
  | x :: l => finD (bgDo S x.c x.s).1 l

theorem chkD_cons {S : Bg} {x : DoX} {l : List DoX} (h : chkD S (x :: l) = true) : (0 ≤ x.s.n ∧ x.s.n < 18446744073709551616) ∧ (bgDo S x.c x.s).2 = (x.n, x.e) ∧ chkD (bgDo S x.c x.s).1 l = true := by
  simp only [chkD, Bool.and_eq_true, decide_eq_true_eq] at h
  exact ⟨h.1.1, h.1.2, h.2⟩

theorem flat_doV : ∀ l : List DoX, flatC (l.map doV) = l.flatMap doC
  | [] => rfl
  | x :: l => by
    have := flat_doV l
    unfold flatC at this ⊢
    simp only [List.map_cons, List.flatMap_cons] at this ⊢
    rw [this]; rfl

abbrev pzD : Pk := ⟨0, 0, 0, 0, 0, 0, 0⟩
def knownL : List DoX := [⟨2, ⟨2, 0, pzD⟩, 0, 1⟩,
  ⟨(-1), ⟨2, 0, pzD⟩, 0, 1⟩,
  ⟨0, ⟨0, 0, pzD⟩, 0, 16⟩,
  ⟨0, ⟨10, 0, pzD⟩, 0, 16⟩,
  ⟨0, ⟨1, 0, ⟨0, 3, 0, 0, 1, 1, 0⟩⟩, 0, 3⟩,
  ⟨0, ⟨1, 0, ⟨0, (-1), 0, 9, 0, 0, 0⟩⟩, 0, 3⟩,
  ⟨0, ⟨1, 0, ⟨0, 0, 0, 2, 0, 0, 0⟩⟩, 0, 4⟩,
  ⟨0, ⟨1, 0, ⟨0, 0, 0, 0, 0, 0, 0⟩⟩, 0, 5⟩,
  ⟨0, ⟨1, 0, ⟨0, 0, 0, 0, 101, 0, 0⟩⟩, 0, 6⟩,
  ⟨0, ⟨1, 0, ⟨0, 0, 0, 1, 1, 0, 0⟩⟩, 0, 6⟩,
  ⟨0, ⟨1, 0, ⟨0, 0, 0, 0, 1, 0, 0⟩⟩, 0, 7⟩,
  ⟨0, ⟨1, 0, ⟨0, 0, 1, 0, 60, 3, 0⟩⟩, 1, 0⟩,
  ⟨0, ⟨1, 0, ⟨0, 0, 7, 0, 40, 0, 50⟩⟩, 2, 0⟩,
  ⟨0, ⟨1, 0, ⟨0, 0, 1, 0, 1, 3, 0⟩⟩, 0, 6⟩,
  ⟨0, ⟨1, 0, ⟨0, 1, 2, 0, 5, 2, 99⟩⟩, 3, 0⟩,
  ⟨0, ⟨1, 0, ⟨0, 1, 2, 0, 5, 9, 99⟩⟩, 4, 0⟩,
  ⟨1, ⟨4, 1, pzD⟩, 0, 10⟩,
  ⟨1, ⟨3, 1, pzD⟩, 0, 8⟩,
  ⟨1, ⟨3, 0, pzD⟩, 0, 8⟩,
  ⟨0, ⟨2, 5, pzD⟩, 0, 0⟩,
  ⟨1, ⟨4, 1, pzD⟩, 0, 10⟩,
  ⟨1, ⟨3, 1, pzD⟩, 0, 0⟩,
  ⟨1, ⟨3, 1, pzD⟩, 0, 8⟩,
  ⟨1, ⟨4, 2, pzD⟩, 0, 9⟩,
  ⟨1, ⟨4, 1, pzD⟩, 0, 0⟩,
  ⟨1, ⟨4, 1, pzD⟩, 0, 9⟩,
  ⟨1, ⟨4, 2, pzD⟩, 0, 0⟩,
  ⟨0, ⟨5, 1, pzD⟩, 0, 12⟩,
  ⟨0, ⟨5, 2, pzD⟩, 0, 9⟩,
  ⟨0, ⟨5, 5, pzD⟩, 0, 10⟩,
  ⟨0, ⟨6, 1, pzD⟩, 0, 13⟩,
  ⟨0, ⟨7, 1, pzD⟩, 0, 14⟩,
  ⟨0, ⟨6, 9, pzD⟩, 0, 10⟩,
  ⟨0, ⟨9, 0, pzD⟩, 0, 14⟩,
  ⟨1, ⟨2, 18446744073709551615, pzD⟩, 0, 0⟩,
  ⟨1, ⟨2, 1, pzD⟩, 0, 15⟩,
  ⟨1, ⟨2, 0, pzD⟩, 0, 0⟩,
  ⟨1, ⟨4, 3, pzD⟩, 0, 11⟩,
  ⟨0, ⟨3, 2, pzD⟩, 0, 0⟩,
  ⟨0, ⟨5, 1, pzD⟩, 0, 0⟩,
  ⟨0, ⟨5, 1, pzD⟩, 0, 10⟩,
  ⟨0, ⟨6, 2, pzD⟩, 0, 13⟩,
  ⟨0, ⟨5, 2, pzD⟩, 0, 0⟩,
  ⟨0, ⟨5, 3, pzD⟩, 0, 12⟩,
  ⟨1, ⟨1, 0, ⟨0, 1, 0, 0, 20, 1, 0⟩⟩, 1, 0⟩,
  ⟨1, ⟨2, 0, pzD⟩, 0, 0⟩,
  ⟨0, ⟨3, 3, pzD⟩, 0, 0⟩,
  ⟨0, ⟨4, 1, pzD⟩, 0, 11⟩,
  ⟨0, ⟨6, 4, pzD⟩, 0, 0⟩,
  ⟨0, ⟨1, 0, ⟨0, 0, 0, 0, 1, 9, 0⟩⟩, 0, 2⟩,
  ⟨0, ⟨4, 1, pzD⟩, 0, 2⟩,
  ⟨0, ⟨8, 0, pzD⟩, 0, 2⟩,
  ⟨0, ⟨9, 0, pzD⟩, 0, 2⟩,
  ⟨0, ⟨6, 3, pzD⟩, 0, 0⟩,
  ⟨0, ⟨2, 0, pzD⟩, 0, 0⟩,
  ⟨1, ⟨7, 1, pzD⟩, 0, 14⟩,
  ⟨1, ⟨3, 2, pzD⟩, 0, 0⟩,
  ⟨1, ⟨6, 1, pzD⟩, 0, 0⟩,
  ⟨1, ⟨9, 0, pzD⟩, 0, 2⟩]
def backL : List DoX := [⟨0, ⟨1, 0, ⟨0, 0, 1, 0, 5, 99, 0⟩⟩, 1, 0⟩,
  ⟨0, ⟨2, 0, pzD⟩, 0, 0⟩,
  ⟨1, ⟨3, 1, pzD⟩, 0, 0⟩,
  ⟨1, ⟨4, 1, pzD⟩, 0, 0⟩,
  ⟨1, ⟨1, 0, ⟨0, 1, 9, 0, 3, 99, 0⟩⟩, 1, 0⟩,
  ⟨1, ⟨2, 0, pzD⟩, 0, 0⟩,
  ⟨0, ⟨3, 1, pzD⟩, 0, 0⟩,
  ⟨0, ⟨4, 1, pzD⟩, 0, 0⟩,
  ⟨0, ⟨5, 1, pzD⟩, 0, 0⟩,
  ⟨0, ⟨2, 0, pzD⟩, 0, 0⟩,
  ⟨1, ⟨3, 2, pzD⟩, 0, 0⟩,
  ⟨1, ⟨5, 1, pzD⟩, 0, 0⟩]

theorem dstep_ok (k n : Int) (Γ : List Ch) : CallsX Try.prog 28 #[.int .i64 k, .int .u64 n] Γ (fun v Δ => v = stV ⟨k, n, ⟨0, 0, 0, 0, 0, 0, 0⟩⟩ ∧ Ent Δ Γ) := by
  refine calls_of_body (args := [.int .i64 k, .int .u64 n]) Try.func28 rfl Try.ntmps28 fun X cs ret => ?_
  refine ex_seq (rg_start_s ?_)
  repeat (first|refine zA rfl ?_|refine zO rfl rfl ?_|refine zQ ?_|refine zR ?_|refine zS ?_|refine zW fun bl=>?_|refine zY rfl ?_)
  exact ex_retC ret Try.func28 (Ent.refl _) (.agg rfl (List.mem_cons_self ..) inferInstance .nil) ⟨rfl, Ent.drop (Ent.refl _)⟩
theorem dpack_ok (a b c d e g : Int) (Γ : List Ch) : CallsX Try.prog 29 #[.int .i64 a, .int .i64 b, .int .i64 c, .int .u64 d, .int .u64 e, .int .u64 g] Γ (fun v Δ => v = stV ⟨1, 0, ⟨0, a, b, c, d, e, g⟩⟩ ∧ Ent Δ Γ) := by
  refine calls_of_body (args := [.int .i64 a, .int .i64 b, .int .i64 c, .int .u64 d, .int .u64 e, .int .u64 g]) Try.func29 rfl Try.ntmps29 fun X cs ret => ?_
  refine ex_seq (rg_start_s ?_)
  repeat (first|refine zA rfl ?_|refine zO rfl rfl ?_|refine zQ ?_|refine zR ?_|refine zS ?_|refine zW fun bl=>?_|refine zY rfl ?_)
  exact ex_retC ret Try.func29 (Ent.refl _) (.agg rfl (List.mem_cons_self ..) inferInstance .nil) ⟨rfl, Ent.drop (Ent.refl _)⟩

def knownS : Bg := finD (bgNew 100) knownL
def backS : Bg := finD (bgNew 10) backL
theorem known_chk : chkD (bgNew 100) knownL = true := by decide +kernel
theorem back_chk : chkD (bgNew 10) backL = true := by decide +kernel

set_option maxHeartbeats 8000000 in
theorem returned_ok (Γ : List Ch) : CallsX Try.prog 27 #[] Γ (fun v Δ => v = .bool true ∧ Ent Δ Γ) := by
  refine calls_of_body (args := []) Try.func27 rfl Try.ntmps27 fun X cs ret => ?_
  refine ex_seq (rg_start_s ?_)
  repeat (first|refine zG rfl ?_|refine zQ ?_|refine zR ?_|refine zS ?_)
  refine rg_call rfl (New_bg 10 Γ (by decide)) ?_
  rintro _ D ⟨b, rfl, hE⟩
  refine ⟨.inl rfl, Rg.ent hE ?_⟩
  repeat (first|refine zA rfl ?_|refine zG rfl ?_|refine zI rfl rfl ?_|refine zQ ?_|refine zR ?_|refine zS ?_)
  refine rg_eqPtrNil rfl rfl ?_
  repeat (first|refine zA rfl ?_|refine zB rfl rfl rfl ?_|refine zK rfl rfl ?_|refine zQ ?_|refine zR ?_|refine zS ?_|refine zV rfl ?_|refine yB ?_)
  refine rg_callE rfl (dpack_ok 0 1 0 5 99 0 _) ?_
  refine ⟨.inl rfl, ?_⟩
  repeat refine zY rfl ?_
  refine rg_callE rfl (dstep_ok 2 0 _) ?_
  refine ⟨.inl rfl, ?_⟩
  repeat refine zY rfl ?_
  refine rg_callE rfl (dstep_ok 3 1 _) ?_
  refine ⟨.inl rfl, ?_⟩
  repeat refine zY rfl ?_
  refine rg_callE rfl (dstep_ok 4 1 _) ?_
  refine ⟨.inl rfl, ?_⟩
  repeat refine zY rfl ?_
  refine rg_callE rfl (dpack_ok 1 9 0 3 99 0 _) ?_
  refine ⟨.inl rfl, ?_⟩
  repeat refine zY rfl ?_
  refine rg_callE rfl (dstep_ok 2 0 _) ?_
  refine ⟨.inl rfl, ?_⟩
  repeat refine zY rfl ?_
  refine rg_callE rfl (dstep_ok 3 1 _) ?_
  refine ⟨.inl rfl, ?_⟩
  repeat refine zY rfl ?_
  refine rg_callE rfl (dstep_ok 4 1 _) ?_
  refine ⟨.inl rfl, ?_⟩
  repeat refine zY rfl ?_
  refine rg_callE rfl (dstep_ok 5 1 _) ?_
  refine ⟨.inl rfl, ?_⟩
  repeat refine zY rfl ?_
  refine rg_callE rfl (dstep_ok 2 0 _) ?_
  refine ⟨.inl rfl, ?_⟩
  repeat refine zY rfl ?_
  refine rg_callE rfl (dstep_ok 3 2 _) ?_
  refine ⟨.inl rfl, ?_⟩
  repeat refine zY rfl ?_
  refine rg_callE rfl (dstep_ok 5 1 _) ?_
  refine ⟨.inl rfl, ?_⟩
  repeat refine zY rfl ?_
  refine rg_buildSlice (vs := backL.map doV) rfl rfl rfl (flat_doV backL) (fun bs => ?_)
  repeat (first|refine zA rfl ?_|refine zQ ?_|refine zZ rfl ?_|refine yC ?_)
  refine ex_loop ?_
  refine ex_ind (ι := Nat × Bg) (fun i => 1000 - i.1) (fun i => [(46, .int .i64 (i.1 : Int)), (45, .int .i64 12), (44, .slice (some ⟨bs, 0, none⟩) 12 12), (1, ptrV b)]) (fun i => .pt bs true (.cells ⟨backL.flatMap doC⟩ 63 (0, 0)) :: .pr (BgAt b i.2) :: Γ)
    (fun i => i.1 ≤ 12 ∧ BgOk (1 + i.1) i.2 ∧ chkD i.2 (backL.drop i.1) = true ∧ finD i.2 (backL.drop i.1) = backS)
    ⟨0, (bgNew 10)⟩ ⟨Nat.zero_le _, newOk _ (by decide), back_chk, rfl⟩ ⟨rfl, rfl, rfl, rfl, trivial⟩ rfl (fun i hi IH => ?_)
  obtain ⟨i, S⟩ := i
  obtain ⟨hi, ok, hc, hf⟩ := hi
  dsimp only at hi ok hc hf IH ⊢
  have hLL : backL.length = 12 := rfl
  repeat refine zR ?_
  refine rg_start_s ?_
  repeat (first|refine zB rfl rfl rfl ?_|refine zQ ?_|refine zR ?_)
  refine ex_cond_split rfl (fun h1 => ?_) (fun h1 => ?_)
  · have hlt : i < 12 := by have := of_decide_eq_true h1; omega
    have hil : i < backL.length := hlt
    rw [List.drop_eq_getElem_cons hil] at hc hf
    haveI hsl : SliceL (backL.flatMap doC) (i * 12) 12 (doC backL[i]) := by have := sliceL_flatK doC_len backL i hil []; rwa [List.append_nil] at this
    generalize backL[i] = x at *
    obtain ⟨hn, he, hc'⟩ := chkD_cons hc
    repeat (first|refine zR ?_|refine yB ?_|refine yC ?_)
    refine rg_start_s ?_
    skip
    refine rg_indexSl rfl rfl ⟨by omega, by omega⟩ ?_
    rw [Int.toNat_natCast, Nat.zero_add (i * 12)]
    refine rg_loadAgg rfl ?_
    repeat (first|refine zA rfl ?_|refine zD rfl ?_|refine zE rfl ?_|refine zF rfl ?_|refine zH rfl ?_|refine zO rfl rfl ?_|refine zQ ?_|refine zR ?_|refine zS ?_|refine zW fun bl=>?_)
    (refine Rg.front 1 ?_; refine Rg.front 1 ?_; refine Rg.front 2 ?_)
    refine rg_callE rfl (Do_at b S x.c x.s (1 + i) _ ok (by omega) hn (bgDo S x.c x.s).1 x.n x.e (Prod.ext rfl he)) ?_
    refine ⟨.inl rfl, ?_⟩
    repeat (first|refine zA rfl ?_|refine zB rfl rfl rfl ?_|refine zE rfl ?_|refine zF rfl ?_|refine zG rfl ?_|refine zI rfl rfl ?_|refine zQ ?_|refine zR ?_|refine zS ?_)
    refine rg_caseG rfl rfl (fun g => absurd g (by simp)) (fun g => ?_)
    repeat (first|refine zA rfl ?_|refine zB rfl rfl rfl ?_|refine zE rfl ?_|refine zF rfl ?_|refine zK rfl rfl ?_|refine zQ ?_)
    refine ex_cond_split rfl (fun g2 => absurd g2 (by simp)) (fun g2 => ?_)
    repeat (first|refine yB ?_|refine yD ?_)
    (refine Ex.front 0 ?_; refine Ex.front 2 ?_; refine Ex.front 2 ?_)
    refine Ex.ent (Ent.drop (Ent.refl _)) ?_
    refine rg_start_s ?_
    repeat (first|refine zA rfl ?_|refine zB rfl rfl rfl ?_|refine zQ ?_)
    refine ex_inLoop ?_
    rw [rwrap (x := (i : Int) + 1) (by omega)]
    exact Ex.sup (IH ⟨i + 1, (bgDo S x.c x.s).1⟩ ⟨by show i + 1 ≤ _; omega, bgStep_keeps ok (by omega) x.c x.s hn.1 _ (Nat.le_refl _), hc', hf⟩ (by show 1000 - (i + 1) < 1000 - i; omega)) ⟨rfl, rfl, rfl, rfl, trivial⟩
  · have hlt : i = 12 := by have := of_decide_eq_false h1; omega
    subst hlt
    have hf : S = backS := hf
    subst hf
    have hl0 : (ownC 0 backS).locked = 5 := by decide +kernel
    have ha1 : (ownC 1 backS).about = 5 := by decide +kernel
    have hp0 : (ownC 0 backS).hd.packets = [] := by decide +kernel
    have hp1 : (ownC 1 backS).hd.packets = [] := by decide +kernel
    have hb0 : bgBal backS 0 0 0 = 5 := by decide +kernel
    have hb1 : bgBal backS 1 1 0 = 5 := by decide +kernel
    generalize backS = S at *
    repeat (first|refine zA rfl ?_|refine zR ?_|refine zS ?_|refine yE rfl ?_)
    (refine Rg.front 0 ?_; refine Rg.front 1 ?_)
    refine rg_call rfl (LookC_bg b S 0 (1 + 12) _ (.inl rfl) ok (by decide)) ?_
    rintro _ D ⟨la, lc, kn, rfl, hE⟩
    refine ⟨.inl rfl, Rg.ent hE ?_⟩
    unfold lookL
    rw [hl0, hp0]
    repeat (first|refine zA rfl ?_|refine zG rfl ?_|refine zI rfl rfl ?_|refine zO rfl rfl ?_|refine zQ ?_|refine zR ?_|refine zS ?_|refine zW fun bl=>?_)
    (refine Rg.front 3 ?_; refine Rg.front 2 ?_; refine Rg.front 2 ?_; refine Rg.front 3 ?_)
    refine rg_call rfl (LookC_bg b S 1 (1 + 12) _ (.inr rfl) ok (by decide)) ?_
    rintro _ D ⟨la1, lc1, kn1, rfl, hE⟩
    refine ⟨.inl rfl, Rg.ent hE ?_⟩
    unfold lookL
    rw [ha1, hp1]
    repeat (first|refine zA rfl ?_|refine zB rfl rfl rfl ?_|refine zG rfl ?_|refine zI rfl rfl ?_|refine zK rfl rfl ?_|refine zO rfl rfl ?_|refine zQ ?_|refine zR ?_|refine zS ?_|refine zW fun bl=>?_)
    (refine Rg.front 5 ?_; refine Rg.front 5 ?_; refine Rg.front 5 ?_; refine Rg.front 4 ?_; refine Rg.front 4 ?_; refine Rg.front 5 ?_)
    refine rg_callE rfl (Bal_at b S 0 0 0 13 _ ok (by decide) 5 hb0) ?_
    refine ⟨.inl rfl, ?_⟩
    repeat (first|refine zA rfl ?_|refine zB rfl rfl rfl ?_|refine zK rfl rfl ?_)
    refine rg_callE rfl (Bal_at b S 1 1 0 13 _ ok (by decide) 5 hb1) ?_
    refine ⟨.inl rfl, ?_⟩
    repeat (first|refine zA rfl ?_|refine zB rfl rfl rfl ?_|refine zE rfl ?_|refine zF rfl ?_|refine zG rfl ?_|refine zK rfl rfl ?_|refine zQ ?_|refine zZ rfl ?_)
    exact ex_rete ret Try.func27 rfl (Ent.drop (Ent.drop (Ent.drop (Ent.drop (Ent.drop (Ent.drop (Ent.refl _))))))) ⟨rfl, Ent.refl _⟩

end Go.Br
