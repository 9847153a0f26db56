/-
  Lemmas towards the law, proved without conditions of their own: THE LOGIC, FIFTH PART: rules for the operations (those of control, arithmetic, addresses, cells).
-/
import Derived.Test.YtedaknlacigbhaaPk03
namespace Go.Lx
open Go

/-! ### What the tables say, as classes (so that a rule finds it) -/

theorem info_of {P : Program} {t : TypeId} {i : TypeInfo} (h : P.types[t]? = some i) : P.info? t = some i := by
  unfold Tables.info?; rw [h, if_pos (lt_of_get? h)]

class Under (P : Program) (t : TypeId) (d : outParam TypeDesc) : Prop where
  eq : P.underlying t = some d

/-- A type of one cell that is no struct and no array. -/
class Scalar (P : Program) (t : TypeId) : Prop where
  agg : ∃ d, P.underlying t = some d ∧ (match d with | .struct _ | .array _ _ => False | _ => True)
  size : ∃ i, P.info? t = some i ∧ i.size = 1

/-- A struct or an array of m cells. -/
class AggT (P : Program) (t : TypeId) (m : outParam Nat) : Prop where
  agg : ∃ d, P.underlying t = some d ∧ (match d with | .struct _ | .array _ _ => True | _ => False)
  size : ∃ i, P.info? t = some i ∧ i.size = m

class CellsOf (P : Program) (t : TypeId) (m : outParam Nat) : Prop where
  size : ∃ i, P.info? t = some i ∧ i.size = m

class ZeroOf (P : Program) (t : TypeId) (v : outParam Value) : Prop where
  eq : ∃ i, P.info? t = some i ∧ i.zero = some v

class FieldAt (P : Program) (t f : Nat) (off : outParam Nat) : Prop where
  eq : ∃ fs fd i, P.underlying t = some (.struct fs) ∧ fs[f]? = some fd ∧ fd.offset = off ∧ P.info? fd.type = some i ∧ i.size ≠ 0

class Find (Γ : List Ch) (b : Nat) (p : outParam Bool) (o : outParam Obj) : Prop where
  mem : Ch.pt b p o ∈ Γ

instance (priority := high) find_head {Γ : List Ch} {b : Nat} {p : Bool} {o : Obj} : Find (.pt b p o :: Γ) b p o := ⟨List.mem_cons_self ..⟩
instance find_tail {Γ : List Ch} {c : Ch} {b : Nat} {p : Bool} {o : Obj} [f : Find Γ b p o] : Find (c :: Γ) b p o := ⟨List.mem_cons_of_mem _ f.mem⟩

/-- Block b may be written: what it holds, and the chunks with something else in its place. -/
class Repl (Γ : List Ch) (b : Nat) (o : outParam Obj) (f : outParam (Obj → List Ch)) : Prop where
  perm : ∃ Δ, Γ.Perm (.pt b true o :: Δ) ∧ ∀ o', (Ch.pt b true o' :: Δ).Perm (f o')

instance (priority := high) repl_head {Γ : List Ch} {b : Nat} {o : Obj} : Repl (.pt b true o :: Γ) b o (fun o' => .pt b true o' :: Γ) := ⟨Γ, List.Perm.refl _, fun _ => List.Perm.refl _⟩
instance repl_tail {Γ : List Ch} {c : Ch} {b : Nat} {o : Obj} {f : Obj → List Ch} [r : Repl Γ b o f] : Repl (c :: Γ) b o (fun o' => c :: f o') := ⟨by
  obtain ⟨Δ, h1, h2⟩ := r.perm
  exact ⟨c :: Δ, (h1.cons c).trans (List.Perm.swap _ _ _), fun o' => (List.Perm.swap _ _ _).trans ((h2 o').cons c)⟩⟩

/-- n values of a list from a place on. -/
class SliceL (l : List Value) (off n : Nat) (vs : outParam (List Value)) : Prop where
  eq : ∃ a c, l = a ++ vs ++ c ∧ a.length = off ∧ vs.length = n

instance slice_nil {l : List Value} : SliceL l 0 0 [] := ⟨[], l, rfl, rfl, rfl⟩
instance slice_take {v : Value} {l vs : List Value} {n : Nat} [s : SliceL l 0 n vs] : SliceL (v :: l) 0 (n + 1) (v :: vs) := ⟨by
  obtain ⟨a, c, h1, h2, h3⟩ := s.eq
  have : a = [] := List.length_eq_zero_iff.1 h2
  subst this
  exact ⟨[], c, by rw [h1]; rfl, rfl, by simp [h3]⟩⟩
instance slice_drop {v : Value} {l vs : List Value} {off n : Nat} [s : SliceL l off n vs] : SliceL (v :: l) (off + 1) n vs := ⟨by
  obtain ⟨a, c, h1, h2, h3⟩ := s.eq
  exact ⟨v :: a, c, by rw [h1]; rfl, by simp [h2], h3⟩⟩

/-- The list with vs laid from a place on. -/
class SetL (l : List Value) (off : Nat) (vs : List Value) (l' : outParam (List Value)) : Prop where
  eq : ∃ a m c, l = a ++ m ++ c ∧ a.length = off ∧ m.length = vs.length ∧ l' = a ++ vs ++ c

instance set_nil {l : List Value} : SetL l 0 [] l := ⟨[], [], l, rfl, rfl, rfl, rfl⟩
instance set_take {u v : Value} {l l' vs : List Value} [s : SetL l 0 vs l'] : SetL (u :: l) 0 (v :: vs) (v :: l') := ⟨by
  obtain ⟨a, m, c, h1, h2, h3, h4⟩ := s.eq
  have : a = [] := List.length_eq_zero_iff.1 h2
  subst this
  exact ⟨[], u :: m, c, by rw [h1]; rfl, rfl, by simp [h3], by rw [h4]; rfl⟩⟩
instance set_drop {u : Value} {l l' vs : List Value} {off : Nat} [s : SetL l off vs l'] : SetL (u :: l) (off + 1) vs (u :: l') := ⟨by
  obtain ⟨a, m, c, h1, h2, h3, h4⟩ := s.eq
  exact ⟨u :: a, m, c, by rw [h1]; rfl, by simp [h2], h3, by rw [h4]; rfl⟩⟩

/-- The cells of a value, as a list. -/
class CellsL (v : Value) (vs : outParam (List Value)) : Prop where
  eq : v.cells.toList = vs
instance (priority := high) cells_agg {vs : List Value} : CellsL (.agg ⟨vs⟩) vs := ⟨rfl⟩
instance cells_int {k : IntKind} {a : Int} : CellsL (.int k a) [.int k a] := ⟨rfl⟩
instance cells_bool {a : Bool} : CellsL (.bool a) [.bool a] := ⟨rfl⟩
instance cells_string {a : ByteArray} : CellsL (.string a) [.string a] := ⟨rfl⟩
instance cells_pointer {a : Option Addr} : CellsL (.pointer a) [.pointer a] := ⟨rfl⟩
instance cells_slice {a : Option Addr} {l c : Nat} : CellsL (.slice a l c) [.slice a l c] := ⟨rfl⟩
instance cells_map {a : Option Nat} : CellsL (.map a) [.map a] := ⟨rfl⟩
instance cells_chan {a : Option Nat} : CellsL (.chan a) [.chan a] := ⟨rfl⟩

/-! ### Small readings of 'wpE' -/
section
variable {P : Program} {h : LH}

theorem wpE_underlying {t : TypeId} {d : TypeDesc} {Q : TypeDesc → LH → Prop} (e : P.underlying t = some d) : wpE P (underlying t) Q h = Q d h := by
  unfold underlying
  show wpE P ((program).bind _) Q h = _
  rw [propext (wpE_bind ..)]
  simp [program, wpE, e]

theorem wpE_typeInfo {t : TypeId} {i : TypeInfo} {Q : TypeInfo → LH → Prop} (e : P.info? t = some i) : wpE P (typeInfo t) Q h = Q i h := by
  unfold typeInfo
  show wpE P ((program).bind _) Q h = _
  rw [propext (wpE_bind ..)]
  simp [program, wpE, e]

theorem wpE_sizeOf {t : TypeId} {i : TypeInfo} {Q : Nat → LH → Prop} (e : P.info? t = some i) : wpE P (sizeOf t) Q h = Q i.size h := by
  unfold sizeOf
  rw [wpE_bind', wpE_typeInfo e]; rfl

theorem wpE_zeroValue {t : TypeId} {i : TypeInfo} {v : Value} {Q : Value → LH → Prop} (e : P.info? t = some i) (z : i.zero = some v) : wpE P (zeroValue t) Q h = Q v h := by
  unfold zeroValue
  rw [wpE_bind', wpE_typeInfo e, z]; rfl

theorem wpE_isAgg_false {t : TypeId} {Q : Bool → LH → Prop} [s : Scalar P t] : wpE P (isAgg t) Q h = Q false h := by
  obtain ⟨d, h1, h2⟩ := s.agg
  unfold isAgg
  rw [wpE_bind', wpE_underlying h1]
  cases d <;> first | rfl | exact h2.elim

theorem wpE_isAgg_true {t m : Nat} {Q : Bool → LH → Prop} [s : AggT P t m] : wpE P (isAgg t) Q h = Q true h := by
  obtain ⟨d, h1, h2⟩ := s.agg
  unfold isAgg
  rw [wpE_bind', wpE_underlying h1]
  cases d <;> first | rfl | exact h2.elim

theorem wpE_load {a : Addr} {p : Bool} {c : Array Value} {T : TypeId} {fz : Nat × Nat} {v : Value} {Q : Value → LH → Prop} (h1 : h a.block = some (p, .cells c T fz)) (h2 : a.spot = none) (h3 : c[a.off]? = some v)
    (q : Q v h) : wpE P (load a) Q h := ⟨p, c, T, fz, v, h1, h2, h3, q⟩

theorem add_block (a : Addr) (n : Nat) : (a.add n).block = a.block := by unfold Addr.add; split <;> rfl
theorem add_spot (a : Addr) (n : Nat) (h : a.spot = none) : (a.add n).spot = none := by unfold Addr.add; split <;> first | exact h | rfl
theorem add_off (a : Addr) (n : Nat) : (a.add n).off = a.off + n := by unfold Addr.add; split <;> simp_all
theorem add_eq (b off n : Nat) : (Addr.mk b off none).add n = ⟨b, off + n, none⟩ := by unfold Addr.add; split <;> simp_all

theorem wpE_loadCellsFrom {b off : Nat} {p : Bool} {T : TypeId} {fz : Nat × Nat} : ∀ (vs : List Value) (a c : List Value) (i : Nat) (acc : Array Value) {Q : Array Value → LH → Prop},
    h b = some (p, .cells ⟨a ++ vs ++ c⟩ T fz) → a.length = off + i → Q ⟨acc.toList ++ vs⟩ h → wpE P (loadCellsFrom ⟨b, off, none⟩ i vs.length acc) Q h := by
  intro vs
  induction vs with
  | nil => intro a c i acc Q _ _ q; simpa [loadCellsFrom] using q
  | cons v vs ih =>
    intro a c i acc Q hb ha q
    simp only [List.length_cons, loadCellsFrom, wpE_bind']
    refine wpE_load (a := (Addr.mk b off none).add i) (v := v) (by rw [add_block]; exact hb) (add_spot _ _ rfl) ?_ ?_
    · rw [add_off]; simp [← ha]
    · refine ih (a ++ [v]) c (i + 1) (acc.push v) (by simpa using hb) (by simp [ha]; omega) ?_
      simpa using q

theorem wpE_loadCells {b off n : Nat} {p : Bool} {l : List Value} {T : TypeId} {fz : Nat × Nat} {vs : List Value} [s : SliceL l off n vs] {Q : Array Value → LH → Prop} (hb : h b = some (p, .cells ⟨l⟩ T fz)) (q : Q ⟨vs⟩ h) :
    wpE P (loadCells ⟨b, off, none⟩ n) Q h := by
  obtain ⟨a, c, h1, h2, h3⟩ := s.eq
  subst h1; subst h3
  unfold loadCells
  exact wpE_loadCellsFrom vs a c 0 #[] hb (by omega) (by simpa using q)

theorem put_put (h : LH) (b : Nat) (o o' : Obj) : (h.put b o).put b o' = h.put b o' := by
  funext x; unfold LH.put; split <;> rfl

theorem wpE_storeCells {b off : Nat} {T : TypeId} {fz : Nat × Nat} : ∀ (vs : List Value) (a m c : List Value) (i : Nat) (h : LH) {Q : Unit → LH → Prop}, (∀ v ∈ vs, oneC v = true) →
    h b = some (true, .cells ⟨a ++ m ++ c⟩ T fz) → a.length = off + i → m.length = vs.length → (fz.2 ≤ fz.1) → (vs ≠ [] → Q () (h.put b (.cells ⟨a ++ vs ++ c⟩ T fz))) → (vs = [] → Q () h) → wpE P (storeCells ⟨b, off, none⟩ vs i) Q h := by
  intro vs
  induction vs with
  | nil =>
    intro a m c i h Q _ hb _ hm _ q q0
    simp only [storeCells]
    exact q0 rfl
  | cons v vs ih =>
    intro a m c i h Q hv hb ha hm hz q q0
    cases m with
    | nil => cases hm
    | cons u m =>
      unfold storeCells
      simp only [wpE_bind']
      refine ⟨hv v (List.mem_cons_self ..), ⟨a ++ u :: m ++ c⟩, T, fz, u, by rw [add_block]; exact hb, add_spot _ _ rfl, by rw [add_off]; simp [← ha], ?_, ?_⟩
      · unfold frozenOf; simp [add_off]; omega
      · have e : (Array.mk (a ++ u :: m ++ c)).setIfInBounds ((Addr.mk b off none).add i).off v = ⟨(a ++ [v]) ++ m ++ c⟩ := by
          rw [add_off]; simp [← ha]
        rw [e, add_block]
        show wpE P (storeCells ⟨b, off, none⟩ vs (i + 1)) Q _
        refine ih (a ++ [v]) m c (i + 1) _ (fun x hx => hv x (List.mem_cons_of_mem _ hx)) (by simp [LH.put]) (by simp [ha]; omega) (by simpa using hm) hz ?_ ?_
        · intro _; rw [put_put]; simpa using q (by simp)
        · intro e; subst e; have := List.length_eq_zero_iff.1 (by simpa using hm : m.length = 0); subst this; simpa using q (by simp)

end

/-! ### Rules -/

section
variable {P : Program} {X : Tgt} {b : Base} {n : Nat} {dr : Bool} {ops : Array Oper} {lo : Nat} {ex : List Nat} {fl : Floats} {E : Env} {rem : List Oper} {k : List Item} {cs : List Frame} {Γ : List Ch}
variable {d : Nat} {T : TypeId} {pos : String} {af : Array Edge} {gd : Option (Nat × Bool)}

theorem rg_move {x : Operand} {v : Value} (hx : Env.val E x = some v) (e : Rg P X b n dr ops (lo + 1) ex fl ((d, v) :: E) rem k cs Γ)
    (hdn : d < n := by decide) (hex : NotYet ex lo := trivial) (hg : GuardOK ops ⟨some d, .move x, T, pos, af, gd⟩ E := by first | exact trivial | exact ⟨_, rfl, rfl⟩) :
    Rg P X b n dr ops lo ex fl E (⟨some d, .move x, T, pos, af, gd⟩ :: rem) k cs Γ :=
  rg_pure rfl hdn hex rfl hg (fun _ ρ h hρ _ => by
    have := hρ x (by simp [Op.operands]) v hx
    simp [execOp, nxv, this]) e

theorem rg_assign {x : Operand} {v : Value} (hx : Env.val E x = some v) (e : Rg P X b n dr ops (lo + 1) ex fl ((d, v) :: E) rem k cs Γ)
    (hdn : d < n := by decide) (hex : NotYet ex lo := trivial) (hg : GuardOK ops ⟨some d, .assign x, T, pos, af, gd⟩ E := by first | exact trivial | exact ⟨_, rfl, rfl⟩) :
    Rg P X b n dr ops lo ex fl E (⟨some d, .assign x, T, pos, af, gd⟩ :: rem) k cs Γ :=
  rg_pure rfl hdn hex rfl hg (fun _ ρ h hρ _ => by
    have := hρ x (by simp [Op.operands]) v hx
    simp [execOp, nxv, this]) e

theorem rg_pick {c x y : Operand} {t : Bool} {u : Value} (hc : Env.val E c = some (.bool t)) (hx : cond t (Env.val E x) (Env.val E y) = some u) (e : Rg P X b n dr ops (lo + 1) ex fl ((d, u) :: E) rem k cs Γ)
    (hdn : d < n := by decide) (hex : NotYet ex lo := trivial) (hg : GuardOK ops ⟨some d, .pick c x y, T, pos, af, gd⟩ E := by first | exact trivial | exact ⟨_, rfl, rfl⟩) :
    Rg P X b n dr ops lo ex fl E (⟨some d, .pick c x y, T, pos, af, gd⟩ :: rem) k cs Γ :=
  rg_pure rfl hdn hex rfl hg (fun _ ρ h hρ _ => by
    have h1 := hρ c (by simp [Op.operands]) _ hc
    cases t with
    | true => have h2 := hρ x (by simp [Op.operands]) u (by simpa using hx); simp [execOp, nxv, h1, h2, asBool]
    | false => have h2 := hρ y (by simp [Op.operands]) u (by simpa using hx); simp [execOp, nxv, h1, h2, asBool]) e

/-- What an operator makes of two integers of one kind (no division). -/
def intV (op : BinOp) (k : IntKind) (x y : Int) : Option Value :=
  match op with
  | .add => some (.int k (k.wrap (x + y)))
  | .sub => some (.int k (k.wrap (x - y)))
  | .mul => some (.int k (k.wrap (x * y)))
  | .eql => some (.bool (decide (x = y)))
  | .neq => some (.bool (!decide (x = y)))
  | .lss => some (.bool (decide (x < y)))
  | .leq => some (.bool (decide (x ≤ y)))
  | .gtr => some (.bool (decide (y < x)))
  | .geq => some (.bool (decide (y ≤ x)))
  | _ => none

theorem wpE_eqGuard_int {op : BinOp} {t : TypeId} {x y : Operand} {j k : IntKind} {a c : Int} {h : LH} {Q : Unit → LH → Prop} (q : Q () h) : wpE P (eqGuard op t x y (.int j a) (.int k c)) Q h := by
  unfold eqGuard
  cases op <;> exact q

theorem wpE_int {op : BinOp} {t : TypeId} {kk : IntKind} {a c : Int} {v : Value} {h : LH} {Q : Value → LH → Prop} (hv : intV op kk a c = some v) (q : Q v h) : wpE P (binOp op t (.int kk a) (.int kk c)) Q h := by
  cases op <;> first | (cases hv; done) | (cases hv; simp [binOp, Op.intArith, Op.intCmp]; exact q)

theorem rg_int {op : BinOp} {t t' : TypeId} {x y : Operand} {kk : IntKind} {a c : Int} {v : Value} (hx : Env.val E x = some (.int kk a)) (hy : Env.val E y = some (.int kk c)) (hv : intV op kk a c = some v)
    (e : Rg P X b n dr ops (lo + 1) ex fl ((d, v) :: E) rem k cs Γ)
    (hdn : d < n := by decide) (hex : NotYet ex lo := trivial) (hg : GuardOK ops ⟨some d, .binOp op t x y t', T, pos, af, gd⟩ E := by first | exact trivial | exact ⟨_, rfl, rfl⟩) :
    Rg P X b n dr ops lo ex fl E (⟨some d, .binOp op t x y t', T, pos, af, gd⟩ :: rem) k cs Γ :=
  rg_pure rfl hdn hex rfl hg (fun _ ρ h hρ _ => by
    have h1 := hρ x (by simp [Op.operands]) _ hx
    have h2 := hρ y (by simp [Op.operands]) _ hy
    simp only [execOp, wpE_bind', h1, h2]
    exact wpE_eqGuard_int (wpE_int hv ⟨rfl, rfl⟩)) e

theorem rg_not {x : Operand} {t : TypeId} {u : Bool} (hx : Env.val E x = some (.bool u)) (e : Rg P X b n dr ops (lo + 1) ex fl ((d, .bool (!u)) :: E) rem k cs Γ)
    (hdn : d < n := by decide) (hex : NotYet ex lo := trivial) (hg : GuardOK ops ⟨some d, .unOp .not t x, T, pos, af, gd⟩ E := by first | exact trivial | exact ⟨_, rfl, rfl⟩) :
    Rg P X b n dr ops lo ex fl E (⟨some d, .unOp .not t x, T, pos, af, gd⟩ :: rem) k cs Γ :=
  rg_pure rfl hdn hex rfl hg (fun _ ρ h hρ _ => by
    have h1 := hρ x (by simp [Op.operands]) _ hx
    simp [execOp, nxv, h1, Op.unary]) e

theorem rg_nilCheck {x : Operand} {a : Addr} (hx : Env.val E x = some (.pointer (some a))) (e : Rg P X b n dr ops (lo + 1) ex fl ((d, .pointer (some a)) :: E) rem k cs Γ)
    (hdn : d < n := by decide) (hex : NotYet ex lo := trivial) (hg : GuardOK ops ⟨some d, .nilCheck x, T, pos, af, gd⟩ E := by first | exact trivial | exact ⟨_, rfl, rfl⟩) :
    Rg P X b n dr ops lo ex fl E (⟨some d, .nilCheck x, T, pos, af, gd⟩ :: rem) k cs Γ :=
  rg_pure rfl hdn hex rfl hg (fun _ ρ h hρ _ => by
    have h1 := hρ x (by simp [Op.operands]) _ hx
    simp [execOp, nxv, h1]) e

theorem rg_extract {x : Operand} {i : Nat} {vs : Array Value} {v : Value} (hx : Env.val E x = some (.tuple vs)) (hv' : vs.toList[i]? = some v) (e : Rg P X b n dr ops (lo + 1) ex fl ((d, v) :: E) rem k cs Γ)
    (hdn : d < n := by decide) (hex : NotYet ex lo := trivial) (hg : GuardOK ops ⟨some d, .extract x i, T, pos, af, gd⟩ E := by first | exact trivial | exact ⟨_, rfl, rfl⟩) :
    Rg P X b n dr ops lo ex fl E (⟨some d, .extract x i, T, pos, af, gd⟩ :: rem) k cs Γ :=
  rg_pure rfl hdn hex rfl hg (fun _ ρ h hρ _ => by
    have h1 := hρ x (by simp [Op.operands]) _ hx
    have hv : vs[i]? = some v := by simpa using hv'
    simp [execOp, nxv, h1, Instr.extract, hv]) e

theorem rg_fieldAddr {t f off o' : Nat} {x : Operand} {bl : Nat} [fa : FieldAt P t f o'] (hx : Env.val E x = some (.pointer (some ⟨bl, off, none⟩))) (e : Rg P X b n dr ops (lo + 1) ex fl ((d, .pointer (some ⟨bl, off + o', none⟩)) :: E) rem k cs Γ)
    (hdn : d < n := by decide) (hex : NotYet ex lo := trivial) (hg : GuardOK ops ⟨some d, .fieldAddr t x f, T, pos, af, gd⟩ E := by first | exact trivial | exact ⟨_, rfl, rfl⟩) :
    Rg P X b n dr ops lo ex fl E (⟨some d, .fieldAddr t x f, T, pos, af, gd⟩ :: rem) k cs Γ :=
  rg_pure rfl hdn hex rfl hg (fun _ ρ h hρ _ => by
    have h1 := hρ x (by simp [Op.operands]) _ hx
    obtain ⟨fs, fd, i, e1, e2, e3, e4, e5⟩ := fa.eq
    simp only [execOp, wpE_bind', h1, Instr.fieldAt, wpE_underlying e1, e2, Instr.sureAddr, wpE_pure, fieldPlace, wpE_sizeOf e4, e5, if_false, add_eq, e3, nxv, and_self]) e

theorem rg_fieldAddr0 {t f off : Nat} {x : Operand} {bl : Nat} [fa : FieldAt P t f 0] (hx : Env.val E x = some (.pointer (some ⟨bl, off, none⟩))) (e : Rg P X b n dr ops (lo + 1) ex fl ((d, .pointer (some ⟨bl, off, none⟩)) :: E) rem k cs Γ)
    (hdn : d < n := by decide) (hex : NotYet ex lo := trivial) (hg : GuardOK ops ⟨some d, .fieldAddr t x f, T, pos, af, gd⟩ E := by first | exact trivial | exact ⟨_, rfl, rfl⟩) :
    Rg P X b n dr ops lo ex fl E (⟨some d, .fieldAddr t x f, T, pos, af, gd⟩ :: rem) k cs Γ :=
  rg_fieldAddr (fa := fa) hx e hdn hex hg

/-- What an index is: in its bounds. -/
theorem rg_indexArr {t len el m : Nat} {x y : Operand} {bl off : Nat} {kk : IntKind} {i : Int} [u : Under P t (.array len el)] [c : CellsOf P el m] (hx : Env.val E x = some (.pointer (some ⟨bl, off, none⟩))) (hy : Env.val E y = some (.int kk i))
    (hi : 0 ≤ i ∧ i < len) (e : Rg P X b n dr ops (lo + 1) ex fl ((d, .pointer (some ⟨bl, off + i.toNat * m, none⟩)) :: E) rem k cs Γ)
    (hdn : d < n := by decide) (hex : NotYet ex lo := trivial) (hg : GuardOK ops ⟨some d, .indexAddr t x y, T, pos, af, gd⟩ E := by first | exact trivial | exact ⟨_, rfl, rfl⟩) :
    Rg P X b n dr ops lo ex fl E (⟨some d, .indexAddr t x y, T, pos, af, gd⟩ :: rem) k cs Γ :=
  rg_pure rfl hdn hex rfl hg (fun _ ρ h hρ _ => by
    have h1 := hρ x (by simp [Op.operands]) _ hx
    have h2 := hρ y (by simp [Op.operands]) _ hy
    obtain ⟨ci, c1, c2⟩ := c.size
    simp only [execOp, wpE_bind', h1, h2, Instr.indexAt, asIntOf, wpE_pure, wpE_underlying u.eq, Instr.sureAddr, hi.1, hi.2, and_self, if_true, wpE_sizeOf c1, c2, add_eq, nxv]) e

theorem rg_indexSl {t el m : Nat} {x y : Operand} {bl off len cap : Nat} {kk : IntKind} {i : Int} [u : Under P t (.slice el)] [c : CellsOf P el m] (hx : Env.val E x = some (.slice (some ⟨bl, off, none⟩) len cap)) (hy : Env.val E y = some (.int kk i))
    (hi : 0 ≤ i ∧ i < len) (e : Rg P X b n dr ops (lo + 1) ex fl ((d, .pointer (some ⟨bl, off + i.toNat * m, none⟩)) :: E) rem k cs Γ)
    (hdn : d < n := by decide) (hex : NotYet ex lo := trivial) (hg : GuardOK ops ⟨some d, .indexAddr t x y, T, pos, af, gd⟩ E := by first | exact trivial | exact ⟨_, rfl, rfl⟩) :
    Rg P X b n dr ops lo ex fl E (⟨some d, .indexAddr t x y, T, pos, af, gd⟩ :: rem) k cs Γ :=
  rg_pure rfl hdn hex rfl hg (fun _ ρ h hρ _ => by
    have h1 := hρ x (by simp [Op.operands]) _ hx
    have h2 := hρ y (by simp [Op.operands]) _ hy
    obtain ⟨ci, c1, c2⟩ := c.size
    simp only [execOp, wpE_bind', h1, h2, Instr.indexAt, asIntOf, wpE_pure, wpE_underlying u.eq, hi.1, hi.2, and_self, if_true, wpE_sizeOf c1, c2, add_eq, nxv]) e

theorem rg_convInt {s t : TypeId} {x : Operand} {k1 k2 : IntKind} {a : Int} [u1 : Under P s (.int k1)] [u2 : Under P t (.int k2)] (hx : Env.val E x = some (.int k1 a)) (e : Rg P X b n dr ops (lo + 1) ex fl ((d, .int k2 (k2.wrap a)) :: E) rem k cs Γ)
    (hdn : d < n := by decide) (hex : NotYet ex lo := trivial) (hg : GuardOK ops ⟨some d, .convert s t x, T, pos, af, gd⟩ E := by first | exact trivial | exact ⟨_, rfl, rfl⟩) :
    Rg P X b n dr ops lo ex fl E (⟨some d, .convert s t x, T, pos, af, gd⟩ :: rem) k cs Γ :=
  rg_pure rfl hdn hex rfl hg (fun _ ρ h hρ _ => by
    have h1 := hρ x (by simp [Op.operands]) _ hx
    simp only [execOp, wpE_bind', h1, convert, wpE_underlying u1.eq, wpE_underlying u2.eq, Conv.intToInt, wpE_pure, nxv, and_self]) e

/-! cells -/

def HasCell (Γ : List Ch) (bl off : Nat) (v : Value) : Prop := ∃ p l T fz, Ch.pt bl p (.cells ⟨l⟩ T fz) ∈ Γ ∧ l[off]? = some v

theorem rg_load {t bl off : Nat} {x : Operand} {p : Bool} {l : List Value} {T' : TypeId} {fz : Nat × Nat} {v : Value} [s : Scalar P t] (hx : Env.val E x = some (.pointer (some ⟨bl, off, none⟩))) [f : Find Γ bl p (.cells ⟨l⟩ T' fz)]
    (e : Rg P X b n dr ops (lo + 1) ex ((lo, fun Δ => HasCell Δ bl off v) :: fl) ((d, v) :: E) rem k cs Γ) (hv : l[off]? = some v := by rfl)
    (hdn : d < n := by decide) (hex : NotYet ex lo := trivial) (hg : GuardOK ops ⟨some d, .load t x, T, pos, af, gd⟩ E := by first | exact trivial | exact ⟨_, rfl, rfl⟩) :
    Rg P X b n dr ops lo ex fl E (⟨some d, .load t x, T, pos, af, gd⟩ :: rem) k cs Γ :=
  rg_read _ rfl hdn hex rfl hg (fun Δ hc ρ h hρ st => by
    have h1 := hρ x (by simp [Op.operands]) _ hx
    obtain ⟨p, l, T', fz, m, hv⟩ := hc
    have hb := Star.mem m st
    simp only [execOp, wpE_bind', h1, Instr.loadAt, Instr.sureAddr, wpE_pure, loadVar, wpE_isAgg_false]
    exact wpE_load (a := ⟨bl, off, none⟩) hb rfl (by simpa using hv) ⟨rfl, rfl⟩) ⟨p, l, T', fz, f.mem, hv⟩ e

def HasCells (Γ : List Ch) (bl off m : Nat) (vs : List Value) : Prop := ∃ p l T fz, Ch.pt bl p (.cells ⟨l⟩ T fz) ∈ Γ ∧ SliceL l off m vs

theorem rg_loadAgg {t bl off m : Nat} {x : Operand} {p : Bool} {l : List Value} {T' : TypeId} {fz : Nat × Nat} {vs : List Value} [s : AggT P t m] (hx : Env.val E x = some (.pointer (some ⟨bl, off, none⟩))) [f : Find Γ bl p (.cells ⟨l⟩ T' fz)] [sl : SliceL l off m vs]
    (e : Rg P X b n dr ops (lo + 1) ex ((lo, fun Δ => HasCells Δ bl off m vs) :: fl) ((d, .agg ⟨vs⟩) :: E) rem k cs Γ)
    (hdn : d < n := by decide) (hex : NotYet ex lo := trivial) (hg : GuardOK ops ⟨some d, .load t x, T, pos, af, gd⟩ E := by first | exact trivial | exact ⟨_, rfl, rfl⟩) :
    Rg P X b n dr ops lo ex fl E (⟨some d, .load t x, T, pos, af, gd⟩ :: rem) k cs Γ :=
  rg_read _ rfl hdn hex rfl hg (fun Δ hc ρ h hρ st => by
    have h1 := hρ x (by simp [Op.operands]) _ hx
    obtain ⟨p, l, T', fz, mm, sl⟩ := hc
    have hb := Star.mem mm st
    obtain ⟨i, i1, i2⟩ := s.size
    simp only [execOp, wpE_bind', h1, Instr.loadAt, Instr.sureAddr, wpE_pure, loadVar, wpE_isAgg_true, wpE_sizeOf i1, i2, if_true]
    exact wpE_loadCells hb ⟨rfl, rfl⟩) ⟨p, l, T', fz, f.mem, sl⟩ e

theorem does_storeCells {t bl off m : Nat} {x y : Operand} {v : Value} {l l' : List Value} {T' : TypeId} {f : Obj → List Ch} {dst : Option Tmp} (hx : Env.val E x = some (.pointer (some ⟨bl, off, none⟩))) (hy : Env.val E y = some v)
    (hsz : ∃ i, P.info? t = some i ∧ i.size = m) (hm : v.cells.toList.length = m) (hone : ∀ u ∈ v.cells.toList, oneC u = true) [r : Repl Γ bl (.cells ⟨l⟩ T' (0, 0)) f] [sl : SetL l off v.cells.toList l'] :
    Does P X ⟨dst, .store t x y, T, pos, af, gd⟩ E Γ (fun u Γ' => u = undef ∧ Γ' = f (.cells ⟨l'⟩ T' (0, 0))) :=
  does_of_wp rfl fun ρ h hρ st => by
    have h1 := hρ x (by simp [Op.operands]) _ hx
    have h2 := hρ y (by simp [Op.operands]) _ hy
    obtain ⟨i, i1, i2⟩ := hsz
    obtain ⟨Δ, p1, p2⟩ := r.perm
    obtain ⟨a, mm, c, e1, e2, e3, e4⟩ := sl.eq
    have st' := st.perm p1
    have hb := Star.mem (List.mem_cons_self ..) st'
    have hsize : v.cells.size = i.size := by rw [i2, ← hm]; simp
    have st2 : Star (f (.cells ⟨l'⟩ T' (0, 0))) (h.put bl (.cells ⟨l'⟩ T' (0, 0))) := (st'.put (o' := .cells ⟨l'⟩ T' (0, 0))).perm (p2 _)
    simp only [execOp, wpE_bind', h1, h2, Instr.storeAt, Instr.sureAddr, wpE_pure, storeVar, wpE_sizeOf i1, hsize, ne_eq, not_true_eq_false, if_false]
    refine wpE_storeCells v.cells.toList a mm c 0 h hone (by rw [hb, e1]) (by simp [e2]) e3 (Nat.le_refl _) ?_ ?_
    · intro _
      rw [← e4]
      exact ⟨undef, _, rfl, ⟨rfl, rfl⟩, st2⟩
    · intro hnil
      have hl : l = l' := by
        rw [hnil] at e3 e4
        have := List.length_eq_zero_iff.1 e3
        subst this
        rw [e1, e4]
      subst hl
      refine ⟨undef, _, rfl, ⟨rfl, rfl⟩, ?_⟩
      have : h.put bl (.cells ⟨l⟩ T' (0, 0)) = h := by
        funext z; unfold LH.put; split
        · subst_vars; rw [hb]
        · rfl
      rw [this] at st2; exact st2

theorem rg_store {t bl off : Nat} {x y : Operand} {v : Value} {l l' : List Value} {T' : TypeId} {f : Obj → List Ch} [s : Scalar P t] (hx : Env.val E x = some (.pointer (some ⟨bl, off, none⟩))) (hy : Env.val E y = some v)
    [r : Repl Γ bl (.cells ⟨l⟩ T' (0, 0)) f] [sl : SetL l off [v] l'] (e : Rg P X b n dr ops (lo + 1) ex fl E rem k cs (f (.cells ⟨l'⟩ T' (0, 0)))) (hone : oneC v = true := by rfl)
    (hex : NotYet ex lo := trivial) (hg : GuardOK ops ⟨none, .store t x y, T, pos, af, gd⟩ E := by first | exact trivial | exact ⟨_, rfl, rfl⟩)
    (hc : dr = false ∨ chkLast ops lo ex = true := by first | exact .inl rfl | exact .inr (by decide +kernel))
    (hr : dr = false ∨ Reval ops ex lo fl (f (.cells ⟨l'⟩ T' (0, 0))) := by first | exact .inl rfl | exact .inr (by (repeat' first | exact trivial | refine ⟨.inr ⟨_, _, _, _, Find.mem, rfl⟩, ?_⟩ | refine ⟨.inr ⟨_, _, _, _, Find.mem, inferInstance⟩, ?_⟩ | refine ⟨.inr ⟨_, Find.mem⟩, ?_⟩ | refine ⟨.inl (by decide +kernel), ?_⟩))) :
    Rg P X b n dr ops lo ex fl E (⟨none, .store t x y, T, pos, af, gd⟩ :: rem) k cs Γ := by
  have hcs : v.cells.toList = [v] := by cases v <;> first | rfl | cases hone
  haveI : SetL l off v.cells.toList l' := hcs ▸ sl
  obtain ⟨i, i1, i2⟩ := s.size
  refine rg_loud (fun d e => by cases e) hex hg hc (does_storeCells (m := 1) hx hy ⟨i, i1, i2⟩ (by rw [hcs]; rfl) (by rw [hcs]; intro u hu; rw [List.mem_singleton.1 hu]; exact hone)) ?_
  rintro u Γ' ⟨rfl, rfl⟩
  exact ⟨hr, e⟩

theorem rg_storeAgg {t bl off m : Nat} {x y : Operand} {vs : List Value} {l l' : List Value} {T' : TypeId} {f : Obj → List Ch} [s : AggT P t m] (hx : Env.val E x = some (.pointer (some ⟨bl, off, none⟩))) (hy : Env.val E y = some (.agg ⟨vs⟩))
    [r : Repl Γ bl (.cells ⟨l⟩ T' (0, 0)) f] [sl : SetL l off vs l'] (e : Rg P X b n dr ops (lo + 1) ex fl E rem k cs (f (.cells ⟨l'⟩ T' (0, 0)))) (hm : vs.length = m := by rfl) (hone : vs.all oneC = true := by rfl)
    (hex : NotYet ex lo := trivial) (hg : GuardOK ops ⟨none, .store t x y, T, pos, af, gd⟩ E := by first | exact trivial | exact ⟨_, rfl, rfl⟩)
    (hc : dr = false ∨ chkLast ops lo ex = true := by first | exact .inl rfl | exact .inr (by decide +kernel))
    (hr : dr = false ∨ Reval ops ex lo fl (f (.cells ⟨l'⟩ T' (0, 0))) := by first | exact .inl rfl | exact .inr (by (repeat' first | exact trivial | refine ⟨.inr ⟨_, _, _, _, Find.mem, rfl⟩, ?_⟩ | refine ⟨.inr ⟨_, _, _, _, Find.mem, inferInstance⟩, ?_⟩ | refine ⟨.inr ⟨_, Find.mem⟩, ?_⟩ | refine ⟨.inl (by decide +kernel), ?_⟩))) :
    Rg P X b n dr ops lo ex fl E (⟨none, .store t x y, T, pos, af, gd⟩ :: rem) k cs Γ := by
  haveI : SetL l off (Value.agg ⟨vs⟩).cells.toList l' := sl
  obtain ⟨i, i1, i2⟩ := s.size
  refine rg_loud (fun d e => by cases e) hex hg hc (does_storeCells (m := m) hx hy ⟨i, i1, i2⟩ hm (List.all_eq_true.1 hone)) ?_
  rintro u Γ' ⟨rfl, rfl⟩
  exact ⟨hr, e⟩

theorem does_alloc {t : TypeId} {z : Value} {dst : Option Tmp} [zz : ZeroOf P t z] : Does P X ⟨dst, .alloc t, T, pos, af, gd⟩ E Γ (fun u Γ' => ∃ bl, u = .pointer (some ⟨bl, 0, none⟩) ∧ Γ' = .pt bl true (.cells z.cells t (0, 0)) :: Γ) :=
  does_of_wp rfl fun ρ h hρ st => by
    obtain ⟨i, i1, i2⟩ := zz.eq
    simp only [execOp, wpE_bind', Instr.alloc, wpE_zeroValue i1 i2, newVar, newRow, newObj, wpE, wpE_pure]
    intro bl hbl
    exact ⟨_, _, rfl, ⟨bl, rfl, rfl⟩, st.new hbl⟩

theorem rg_alloc {t : TypeId} {z : Value} {zs : List Value} [zz : ZeroOf P t z] [cl : CellsL z zs] (e : ∀ bl, Rg P X b n dr ops (lo + 1) ex fl ((d, .pointer (some ⟨bl, 0, none⟩)) :: E) rem k cs (.pt bl true (.cells ⟨zs⟩ t (0, 0)) :: Γ))
    (hdn : d < n := by decide) (hex : NotYet ex lo := trivial) (hg : GuardOK ops ⟨some d, .alloc t, T, pos, af, gd⟩ E := by first | exact trivial | exact ⟨_, rfl, rfl⟩)
    (hc : dr = false ∨ chkLast ops lo ex = true := by first | exact .inl rfl | exact .inr (by decide +kernel))
    (hr : ∀ bl, dr = false ∨ Reval ops ex lo fl (.pt bl true (.cells ⟨zs⟩ t (0, 0)) :: Γ) := by first | exact fun _ => .inl rfl | exact fun _ => .inr (by (repeat' first | exact trivial | refine ⟨.inr ⟨_, _, _, _, Find.mem, rfl⟩, ?_⟩ | refine ⟨.inr ⟨_, _, _, _, Find.mem, inferInstance⟩, ?_⟩ | refine ⟨.inr ⟨_, Find.mem⟩, ?_⟩ | refine ⟨.inl (by decide +kernel), ?_⟩))) :
    Rg P X b n dr ops lo ex fl E (⟨some d, .alloc t, T, pos, af, gd⟩ :: rem) k cs Γ := by
  refine rg_loud (fun d' e => by cases e; exact hdn) hex hg hc does_alloc ?_
  rintro u Γ' ⟨bl, rfl, rfl⟩
  have : z.cells = ⟨zs⟩ := by rw [← cl.eq]
  rw [this]
  exact ⟨hr bl, e bl⟩

theorem does_box {t : TypeId} {x : Operand} {v : Value} {dst : Option Tmp} (hx : Env.val E x = some v) : Does P X ⟨dst, .box t x, T, pos, af, gd⟩ E Γ (fun u Γ' => ∃ bl, u = .pointer (some ⟨bl, 0, none⟩) ∧ Γ' = .pt bl true (.cells v.cells t (0, 0)) :: Γ) :=
  does_of_wp rfl fun ρ h hρ st => by
    have h1 := hρ x (by simp [Op.operands]) _ hx
    simp only [execOp, wpE_bind', Instr.box, newVar, newRow, newObj, wpE, wpE_pure, h1]
    intro bl hbl
    exact ⟨_, _, rfl, ⟨bl, rfl, rfl⟩, st.new hbl⟩

theorem rg_boxAgg {t : TypeId} {x : Operand} {vs : List Value} (hx : Env.val E x = some (.agg ⟨vs⟩)) (e : ∀ bl, Rg P X b n dr ops (lo + 1) ex fl ((d, .pointer (some ⟨bl, 0, none⟩)) :: E) rem k cs (.pt bl true (.cells ⟨vs⟩ t (0, 0)) :: Γ))
    (hdn : d < n := by decide) (hex : NotYet ex lo := trivial) (hg : GuardOK ops ⟨some d, .box t x, T, pos, af, gd⟩ E := by first | exact trivial | exact ⟨_, rfl, rfl⟩)
    (hc : dr = false ∨ chkLast ops lo ex = true := by first | exact .inl rfl | exact .inr (by decide +kernel))
    (hr : ∀ bl, dr = false ∨ Reval ops ex lo fl (.pt bl true (.cells ⟨vs⟩ t (0, 0)) :: Γ) := by first | exact fun _ => .inl rfl | exact fun _ => .inr (by (repeat' first | exact trivial | refine ⟨.inr ⟨_, _, _, _, Find.mem, rfl⟩, ?_⟩ | refine ⟨.inr ⟨_, _, _, _, Find.mem, inferInstance⟩, ?_⟩ | refine ⟨.inr ⟨_, Find.mem⟩, ?_⟩ | refine ⟨.inl (by decide +kernel), ?_⟩))) :
    Rg P X b n dr ops lo ex fl E (⟨some d, .box t x, T, pos, af, gd⟩ :: rem) k cs Γ := by
  refine rg_loud (fun d' e => by cases e; exact hdn) hex hg hc (does_box hx) ?_
  rintro u Γ' ⟨bl, rfl, rfl⟩
  exact ⟨hr bl, e bl⟩

/-! calls -/

class HasBody (P : Program) (f : FuncId) : Prop where
  eq : ∃ fn, P.funcs[f]? = some fn ∧ fn.body.isSome = true ∧ (fn.name == "runtime.NumGoroutine") = false

def vals (E : Env) : List Operand → Option (List Value)
  | [] => some []
  | x :: l => match Env.val E x, vals E l with
    | some v, some vs => some (v :: vs)
    | _, _ => none

theorem vals_map {E : Env} {ρ : Operand → Value} : ∀ (l : List Operand) (vs : List Value), (∀ x ∈ l, ∀ u, Env.val E x = some u → ρ x = u) → vals E l = some vs → l.map ρ = vs := by
  intro l
  induction l with
  | nil => intro vs _ e; cases e; rfl
  | cons x l ih =>
    intro vs h e
    simp only [vals] at e
    split at e
    · rename_i v vs' e1 e2
      cases e
      rw [List.map_cons, h x (List.mem_cons_self ..) v e1, ih vs' (fun y hy => h y (List.mem_cons_of_mem _ hy)) e2]
    · cases e

theorem does_call {f : FuncId} {args : List Operand} {at' : Array TypeId} {vs : List Value} {φ : Value → List Ch → Prop} {dst : Option Tmp} [hb : HasBody P f] (ha : vals E args = some vs) (hc : CallsA P X f vs.toArray Γ φ) :
    Does P X ⟨dst, .call ⟨.value (.func f), ⟨args⟩, at'⟩, T, pos, af, gd⟩ E Γ φ := by
  intro b R ops i l k cs h ho hw hρ st e
  obtain ⟨fn, f1, f2, f3⟩ := hb.eq
  refine ev_op ho hw rfl ?_
  have hargs : args.map (evT R) = vs := vals_map args vs (fun x hx => hρ x (by simp [Op.operands, Call.operands, hx])) ha
  simp only [execOp, resolve, wpE_bind', evT, Deferred.ofValue, wpE_pure, invoke, callFunc, program, wpE, f1, f3]
  have hnone : fn.body.isNone = false := by cases h : fn.body <;> simp [h] at f2 ⊢
  simp only [Bool.false_eq_true, if_false, hnone, wpE_pure, NxOK, List.map_toArray, hargs]
  have := hc (b.fr R (.inRegion ops (i :: l) :: k) :: cs) h st
  simp only [List.append_toArray, List.nil_append, List.append_nil]
  refine this fun fr v Γ' h' hφ hr hs => ev_return hr hs ?_
  rw [finish_fr, ho]
  exact e v Γ' h' hφ hs

theorem rg_callA {f : FuncId} {args : List Operand} {at' : Array TypeId} {vs : List Value} {φ : Value → List Ch → Prop} [hb : HasBody P f] (ha : vals E args = some vs) (hc : CallsA P X f vs.toArray Γ φ)
    (e : ∀ v Γ', φ v Γ' → (dr = false ∨ Reval ops ex lo fl Γ') ∧ Rg P X b n dr ops (lo + 1) ex fl ((d, v) :: E) rem k cs Γ')
    (hdn : d < n := by decide) (hex : NotYet ex lo := trivial) (hg : GuardOK ops ⟨some d, .call ⟨.value (.func f), ⟨args⟩, at'⟩, T, pos, af, gd⟩ E := by first | exact trivial | exact ⟨_, rfl, rfl⟩)
    (hl : dr = false ∨ chkLast ops lo ex = true := by first | exact .inl rfl | exact .inr (by decide +kernel)) :
    Rg P X b n dr ops lo ex fl E (⟨some d, .call ⟨.value (.func f), ⟨args⟩, at'⟩, T, pos, af, gd⟩ :: rem) k cs Γ :=
  rg_loud (fun d' e => by cases e; exact hdn) hex hg hl (does_call ha hc) e

theorem rg_call {f : FuncId} {args : List Operand} {at' : Array TypeId} {vs : List Value} {φ : Value → List Ch → Prop} [hb : HasBody P f] (ha : vals E args = some vs) (hc : CallsX P f vs.toArray Γ φ)
    (e : ∀ v Γ', φ v Γ' → (dr = false ∨ Reval ops ex lo fl Γ') ∧ Rg P X b n dr ops (lo + 1) ex fl ((d, v) :: E) rem k cs Γ')
    (hdn : d < n := by decide) (hex : NotYet ex lo := trivial) (hg : GuardOK ops ⟨some d, .call ⟨.value (.func f), ⟨args⟩, at'⟩, T, pos, af, gd⟩ E := by first | exact trivial | exact ⟨_, rfl, rfl⟩)
    (hl : dr = false ∨ chkLast ops lo ex = true := by first | exact .inl rfl | exact .inr (by decide +kernel)) :
    Rg P X b n dr ops lo ex fl E (⟨some d, .call ⟨.value (.func f), ⟨args⟩, at'⟩, T, pos, af, gd⟩ :: rem) k cs Γ :=
  rg_callA ha (hc X) e hdn hex hg hl

theorem CallsX.perm {f : FuncId} {args : Array Value} {Γ' : List Ch} {φ : Value → List Ch → Prop} (p : Γ.Perm Γ') (c : CallsX P f args Γ' φ) : CallsX P f args Γ φ :=
  fun X cs h s e => c X cs h (s.perm p) e
theorem CallsX.mono {f : FuncId} {args : Array Value} {φ ψ : Value → List Ch → Prop} (c : CallsX P f args Γ φ) (m : ∀ v Δ, φ v Δ → ψ v Δ) : CallsX P f args Γ ψ :=
  fun X cs h s e => c X cs h s fun fr v Γ' h' hφ => e fr v Γ' h' (m _ _ hφ)

end

end Go.Lx
