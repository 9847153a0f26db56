/-
  Lemmas towards the law, proved without conditions of their own: THE LOGIC, EIGHTH PART: slices that grow, slice literals, make, copy, strings, functions without a body; THE LOGIC, NINTH PART: chunks brought to the front, opened, folded; out-of-order takes; loops; THE LOGIC, TENTH PART: range over a map; THE LOGIC, ELEVENTH PART: slice and array literals, copy.
-/
import Derived.Test.YtedaknlacigbhaaPk05
namespace Go.Lx
open Go

/-- A slice of the program's own, from the beginning of its array: its cells, its length; the array may hold more. -/
def SlV (el m : Nat) (s : Value) (xs : List Value) (len : Nat) : LH → Prop := fun h =>
  (s = .slice none 0 0 ∧ xs = [] ∧ len = 0) ∨
  ∃ bl cap slack, s = .slice (some ⟨bl, 0, none⟩) len cap ∧ len ≤ cap ∧ xs.length = len * m ∧ slack.length = (cap - len) * m ∧ h bl = some (true, .cells ⟨xs ++ slack⟩ el (0, 0))

theorem SlV.len {el m : Nat} {s : Value} {xs : List Value} {len : Nat} {h : LH} (v : SlV el m s xs len h) : xs.length = len * m := by
  rcases v with ⟨_, h1, h2⟩ | ⟨_, _, _, _, _, h1, _, _⟩
  · subst h1; subst h2; simp
  · exact h1

theorem SlV.one {el m : Nat} {s : Value} {xs : List Value} {len : Nat} {h : LH} (v : SlV el m s xs len h) : oneC s = true := by
  rcases v with ⟨h1, _⟩ | ⟨_, _, _, h1, _⟩ <;> (subst h1; rfl)

theorem star_slv {el m : Nat} {s : Value} {xs : List Value} {len : Nat} {Γ : List Ch} {h : LH} :
    Star (.pr (SlV el m s xs len) :: Γ) h ↔ (s = .slice none 0 0 ∧ xs = [] ∧ len = 0 ∧ Star (.pr (fun _ => True) :: Γ) h) ∨
      ∃ bl cap slack, s = .slice (some ⟨bl, 0, none⟩) len cap ∧ len ≤ cap ∧ xs.length = len * m ∧ slack.length = (cap - len) * m ∧ Star (.pt bl true (.cells ⟨xs ++ slack⟩ el (0, 0)) :: Γ) h := by
  constructor
  · rintro ⟨h1, h2, j, v, st⟩
    rcases v with ⟨a, b, c⟩ | ⟨bl, cap, slack, a, b, c, d, e⟩
    · exact .inl ⟨a, b, c, h1, h2, j, trivial, st⟩
    · exact .inr ⟨bl, cap, slack, a, b, c, d, h1, h2, j, e, st⟩
  · rintro (⟨a, b, c, h1, h2, j, _, st⟩ | ⟨bl, cap, slack, a, b, c, d, h1, h2, j, e, st⟩)
    · exact ⟨h1, h2, j, .inl ⟨a, b, c⟩, st⟩
    · exact ⟨h1, h2, j, .inr ⟨bl, cap, slack, a, b, c, d, e⟩, st⟩

theorem growBy_le (nl : Nat) : ∀ (r c : Nat), Builtin.growBy nl r c ≤ 3 ^ r * (c + 768) := by
  intro r
  induction r with
  | zero => intro c; simp [Builtin.growBy]
  | succ r ih =>
    intro c
    unfold Builtin.growBy
    split
    · have : 1 ≤ 3 ^ (r + 1) := Nat.one_le_pow _ _ (by decide)
      calc c ≤ 1 * (c + 768) := by omega
        _ ≤ _ := Nat.mul_le_mul_right _ this
    · refine Nat.le_trans (ih _) ?_
      rw [Nat.pow_succ, Nat.mul_assoc]
      refine Nat.mul_le_mul_left _ ?_
      omega

theorem nextcap_le (need cap : Nat) (h : cap < need) : Builtin.nextslicecap need cap ≤ 81 * (need + 768) := by
  unfold Builtin.nextslicecap
  split
  · omega
  · split
    · omega
    · refine Nat.le_trans (growBy_le _ _ _) ?_
      have : 3 ^ 4 = 81 := rfl
      rw [this]
      refine Nat.mul_le_mul_left _ ?_
      omega

/-- The cells of what is appended: from a slice that is empty, or out of a block. -/
def SrcV (Γ : List Ch) (y : Value) (m : Nat) (ys : List Value) (c : Nat) : Prop :=
  (∃ a k, y = .slice a 0 k ∧ ys = [] ∧ c = 0) ∨ ∃ bl off k p l T fz, y = .slice (some ⟨bl, off, none⟩) c k ∧ Ch.pt bl p (.cells ⟨l⟩ T fz) ∈ Γ ∧ SliceL l off (c * m) ys

theorem wpE_firstCells {P : Program} {Γ : List Ch} {y : Value} {m c : Nat} {ys : List Value} {h : LH} (sv : SrcV Γ y m ys c) (st : Star Γ h) {Q : Array Value → LH → Prop} (q : Q ⟨ys⟩ h) : wpE P (Builtin.firstCells m c y) Q h := by
  rcases sv with ⟨a, k, rfl, rfl, rfl⟩ | ⟨bl, off, k, p, l, T, fz, rfl, mem, sl⟩
  · cases a with
    | none => exact q
    | some a => simp only [Builtin.firstCells, Nat.zero_mul, loadCells, loadCellsFrom]; exact q
  · simp only [Builtin.firstCells]
    exact wpE_loadCells (Star.mem mem st) q

theorem SrcV.len {Γ : List Ch} {y : Value} {m c : Nat} {ys : List Value} (sv : SrcV Γ y m ys c) : ys.length = c * m ∧ ∃ a k, y = .slice a c k := by
  rcases sv with ⟨a, k, rfl, rfl, rfl⟩ | ⟨bl, off, k, p, l, T, fz, rfl, mem, sl⟩
  · exact ⟨by simp, a, k, rfl⟩
  · obtain ⟨_, _, _, _, h⟩ := sl.eq; exact ⟨h, _, k, rfl⟩

class ElemOf (P : Program) (el : TypeId) (m bytes : outParam Nat) : Prop where
  eq : ∃ i z, P.info? el = some i ∧ i.size = m ∧ i.bytes = bytes ∧ i.zero = some z ∧ z.cells.size = m

theorem zeroCells_len (z : Array Value) (k : Nat) : (Builtin.zeroCells z k).toList.length = k * z.size := by simp [Builtin.zeroCells]

section
variable {P : Program} {X : Tgt} {b : Base} {n : Nat} {dr : Bool} {ops : Array Oper} {lo : Nat} {ex : List Nat} {fl : Floats} {E : Env} {rem : List Oper} {k : List Item} {cs : List Frame} {Γ : List Ch}
variable {d : Nat} {T : TypeId} {pos : String} {af : Array Edge} {gd : Option (Nat × Bool)}

theorem wpE_append {t el m bytes : Nat} {t2 el2 : TypeId} {s y : Value} {xs ys : List Value} {len c : Nat} {tt : TypeId} [u : Under P t (.slice el)] [u2 : Under P t2 (.slice el2)] [eo : ElemOf P el m bytes] {h : LH}
    (hs : Star (.pr (SlV el m s xs len) :: Γ) h) (sv : SrcV Γ y m ys c) (hone : ∀ v ∈ ys, oneC v = true) (hbd : 81 * (len + c + 768) * bytes ≤ 2 ^ 48) (hbd2 : len + c < 2 ^ 62)
    {Q : Value → LH → Prop} (q : ∀ s' h', Star (.pr (SlV el m s' (xs ++ ys) (len + c)) :: Γ) h' → Q s' h') : wpE P (Builtin.append_ #[t, t2] tt #[s, y]) Q h := by
  obtain ⟨i, z, i1, i2, i3, i4, i5⟩ := eo.eq
  obtain ⟨hylen, ya, yk, hy⟩ := sv.len
  have hst : Star Γ h := by
    obtain ⟨h1, h2, j, _, st⟩ := hs
    exact st.more j.comm
  have hx : ∃ base cap, s = .slice base len cap := by
    obtain ⟨h1, h2, j, v, st⟩ := hs
    rcases v with ⟨a, _, c⟩ | ⟨bl, cap, slack, a, _⟩
    · exact ⟨none, 0, by rw [a, c]⟩
    · exact ⟨_, cap, a⟩
  obtain ⟨base, cap, hsv⟩ := hx
  unfold Builtin.append_
  simp only [wpE_bind', List.getElem?_toArray, List.getElem?_cons_zero, List.getElem?_cons_succ, wpE_underlying u.eq]
  subst hsv
  simp only [wpE_bind', wpE_sizeOf i1, wpE_pure, wpE_underlying u2.eq, Bool.false_eq_true, if_false]
  have hlen : wpE P (Builtin.lenOf y) (fun n h' => n = c ∧ h' = h) h := by rw [hy]; exact ⟨rfl, rfl⟩
  refine wpE_mono _ hlen ?_
  rintro _ _ ⟨rfl, rfl⟩
  rename_i c h
  have hfc : ∀ (Q : Array Value → LH → Prop), Q ⟨ys⟩ h → wpE P (Builtin.firstCells i.size c y) Q h := fun Q q => by rw [i2]; exact wpE_firstCells sv hst q
  by_cases hin : len + c ≤ cap
  · rw [if_pos hin]
    simp only [wpE_bind', Bool.not_false, if_true]
    refine hfc _ ?_
    rcases star_slv.1 hs with ⟨e1, e2, e3, st0⟩ | ⟨bl, cap', slack, e1, e2, e3, e4, st0⟩
    · cases e1
      have hc0 : c = 0 := by omega
      subst hc0; subst e2
      have hys : ys = [] := List.length_eq_zero_iff.1 (by simpa using hylen)
      subst hys
      simp only [wpE_pure]
      exact q _ _ (star_slv.2 (.inl ⟨rfl, rfl, rfl, st0⟩))
    · cases e1
      simp only [wpE_bind', wpE_pure, i2]
      have hb := Star.mem (List.mem_cons_self ..) st0
      have hsl : slack = slack.take (c * m) ++ slack.drop (c * m) := (List.take_append_drop _ _).symm
      have hcm : c * m ≤ (cap - len) * m := Nat.mul_le_mul_right _ (by omega)
      have hput : Star (.pt bl true (.cells ⟨(xs ++ ys) ++ slack.drop (c * m)⟩ el (0, 0)) :: Γ) (h.put bl (.cells ⟨(xs ++ ys) ++ slack.drop (c * m)⟩ el (0, 0))) := st0.put
      have hfin : ∀ h', Star (.pt bl true (.cells ⟨(xs ++ ys) ++ slack.drop (c * m)⟩ el (0, 0)) :: Γ) h' → Q (.slice (some ⟨bl, 0, none⟩) (len + c) cap) h' := fun h' st' =>
        q _ _ (star_slv.2 (.inr ⟨bl, cap, slack.drop (c * m), rfl, hin, by rw [List.length_append, e3, hylen, Nat.add_mul], by rw [List.length_drop, e4, ← Nat.sub_mul]; congr 1; omega, st'⟩))
      have e : (Addr.mk bl 0 none).add (len * m) = ⟨bl, len * m, none⟩ := by rw [add_eq]; simp
      rw [e]
      refine wpE_storeCells ys xs (slack.take (c * m)) (slack.drop (c * m)) 0 h hone ?_ (by simpa using e3) (by rw [List.length_take, e4, hylen]; exact Nat.min_eq_left hcm) (T := el) (fz := (0, 0)) (Nat.le_refl 0) ?_ ?_
      · rw [hb]; rw [List.append_assoc, ← hsl]
      · intro _; exact hfin _ hput
      · intro hnil
        refine hfin h ?_
        subst hnil
        have : c * m = 0 := by simpa using hylen.symm
        rw [this]
        simpa using st0
  · rw [if_neg hin]
    have h1 : ¬ (((len + c : Nat) : Int) > IntKind.i64.max ∧ (False ∨ i.bytes = 0)) := by
      rintro ⟨h1, _⟩
      have : IntKind.i64.max = 9223372036854775807 := by decide
      omega
    have h2 : ¬ (Builtin.nextslicecap (len + c) cap * i.bytes > 2 ^ 48) := by
      have := nextcap_le (len + c) cap (by omega)
      have := Nat.mul_le_mul_right i.bytes this
      rw [i3] at this ⊢
      have h3 : 81 * (len + c + 768) * bytes ≤ 2 ^ 48 := hbd
      omega
    simp only [wpE_bind', wpE_typeInfo i1, if_neg h1, if_neg h2, Bool.not_false, if_true]
    intro nc hnc
    have hnc' : len + c ≤ nc := by
      simp only [Question.forced, Bool.false_eq_true, if_false] at hnc
      obtain ⟨t, ht⟩ := hnc
      simp only [Question.cut] at ht
      omega
    have hask : ∀ (Q : Unit → LH → Prop), Q () h → wpE P (askRoom (nc * i.bytes)) Q h := by
      intro Q q
      unfold askRoom
      split
      · exact ⟨rfl, q⟩
      · exact q
    simp only [wpE_pure']
    refine hask _ ?_
    have hold : ∀ (Q : Array Value → LH → Prop), Q ⟨xs⟩ h → wpE P (Builtin.firstCells i.size len (.slice base len cap)) Q h := by
      intro Q q0
      rcases star_slv.1 hs with ⟨e1, e2, e3, st0⟩ | ⟨bl, cap', slack, e1, e2, e3, e4, st0⟩
      · subst e2; subst e3; cases e1; exact q0
      · cases e1
        simp only [Builtin.firstCells, i2]
        haveI : SliceL (xs ++ slack) 0 (len * m) xs := ⟨[], slack, rfl, rfl, e3⟩
        exact wpE_loadCells (Star.mem (List.mem_cons_self ..) st0) q0
    refine hold _ ?_
    refine hfc _ ?_
    simp only [wpE_zeroValue i1 i4, newRow, newObj, wpE_bind', wpE, wpE_pure]
    intro bl hbl
    refine q _ _ (star_slv.2 (.inr ⟨bl, nc, (Builtin.zeroCells z.cells (nc - (len + c))).toList, rfl, hnc', ?_, ?_, ?_⟩))
    · rw [List.length_append, hylen, Nat.add_mul]
      congr 1
      obtain ⟨_, _, _, v, _⟩ := hs
      exact v.len
    · rw [zeroCells_len, i5]
    · have := hst.new (o := .cells ⟨xs ++ ys ++ (Builtin.zeroCells z.cells (nc - (len + c))).toList⟩ el (0, 0)) hbl
      have e : (Array.mk xs ++ Array.mk ys ++ Builtin.zeroCells z.cells (nc - (len + c))) = ⟨xs ++ ys ++ (Builtin.zeroCells z.cells (nc - (len + c))).toList⟩ := by
        apply Array.toList_inj.1; simp
      rw [e]
      exact this

/-! functions without a body -/

class ExtOf (P : Program) (f : FuncId) (e : outParam (Array Value → Sem Value)) : Prop where
  eq : ∃ fn, P.funcs[f]? = some fn ∧ fn.body.isNone = true ∧ (fn.name == "runtime.NumGoroutine") = false ∧ Extern.findNext fn = none ∧ Extern.find fn = some e

theorem does_ext {f : FuncId} {args : List Operand} {at' : Array TypeId} {vs : List Value} {ef : Array Value → Sem Value} {φ : Value → List Ch → Prop} {dst : Option Tmp} [x : ExtOf P f ef] (ha : vals E args = some vs)
    (hw : ∀ h, Star Γ h → wpE P (ef vs.toArray) (fun v h' => ∃ Γ', φ v Γ' ∧ Star Γ' h') h) : Does P X ⟨dst, .call ⟨.value (.func f), ⟨args⟩, at'⟩, T, pos, af, gd⟩ E Γ φ :=
  does_of_wp rfl fun ρ h hρ st => by
    obtain ⟨fn, f1, f2, f3, f4, f5⟩ := x.eq
    have hargs : args.map ρ = vs := vals_map args vs (fun x hx => hρ x (by simp [Op.operands, Call.operands, hx])) ha
    have h0 : ρ (.func f) = .func (.func f) #[] #[] := hρ (.func f) (by simp [Op.operands, Call.operands]) _ rfl
    simp only [execOp, resolve, wpE_bind', h0, Deferred.ofValue, wpE_pure, invoke, callFunc, program, wpE, f1, f3, Bool.false_eq_true, if_false, f2, if_true, f4, f5, List.map_toArray, hargs, mark]
    simp only [List.append_toArray, List.nil_append, List.append_nil]
    refine ⟨rfl, wpE_mono _ (hw h st) ?_⟩
    rintro v h' ⟨Γ', hφ, st'⟩
    exact ⟨v, Γ', rfl, hφ, st'⟩

theorem rg_ext {f : FuncId} {args : List Operand} {at' : Array TypeId} {vs : List Value} {ef : Array Value → Sem Value} {φ : Value → List Ch → Prop} [x : ExtOf P f ef] (ha : vals E args = some vs)
    (hw : ∀ h, Star Γ h → wpE P (ef vs.toArray) (fun v h' => ∃ Γ', φ v Γ' ∧ Star Γ' h') h)
    (e : ∀ v Γ', φ v Γ' → (dr = false ∨ Reval ops ex lo fl Γ') ∧ Rg P X b n dr ops (lo + 1) ex fl ((d, v) :: E) rem k cs Γ')
    (hdn : d < n := by decide) (hex : NotYet ex lo := trivial) (hg : GuardOK ops ⟨some d, .call ⟨.value (.func f), ⟨args⟩, at'⟩, T, pos, af, gd⟩ E := by first | exact trivial | exact ⟨_, rfl, rfl⟩)
    (hl : dr = false ∨ chkLast ops lo ex = true := by first | exact .inl rfl | exact .inr (by decide +kernel)) :
    Rg P X b n dr ops lo ex fl E (⟨some d, .call ⟨.value (.func f), ⟨args⟩, at'⟩, T, pos, af, gd⟩ :: rem) k cs Γ :=
  rg_loud (fun d' e => by cases e; exact hdn) hex hg hl (does_ext ha hw) e

theorem rg_makeIface {t : TypeId} {x : Operand} {v : Value} {td : TypeDesc} [u : Under P t td] (hn : (match td with | .interface _ => False | _ => True)) (hx : Env.val E x = some v) (e : Rg P X b n dr ops (lo + 1) ex fl ((d, .iface t v) :: E) rem k cs Γ)
    (hdn : d < n := by decide) (hex : NotYet ex lo := trivial) (hg : GuardOK ops ⟨some d, .makeInterface t x, T, pos, af, gd⟩ E := by first | exact trivial | exact ⟨_, rfl, rfl⟩) :
    Rg P X b n dr ops lo ex fl E (⟨some d, .makeInterface t x, T, pos, af, gd⟩ :: rem) k cs Γ :=
  rg_pure rfl hdn hex rfl hg (fun _ ρ h hρ _ => by
    have h1 := hρ x (by simp [Op.operands]) _ hx
    simp only [execOp, wpE_bind', h1, Instr.makeInterface, wpE_underlying u.eq]
    cases td <;> first | exact hn.elim | exact ⟨rfl, rfl⟩) e

/-- A type assertion that holds, to a type that is no interface. -/
theorem rg_assertSame {t t1 : TypeId} {x : Operand} {v : Value} {td : TypeDesc} [u : Under P t td] (hn : (match td with | .interface _ => False | _ => True)) (hx : Env.val E x = some (.iface t v)) (e : Rg P X b n dr ops (lo + 1) ex fl ((d, v) :: E) rem k cs Γ)
    (hdn : d < n := by decide) (hex : NotYet ex lo := trivial) (hg : GuardOK ops ⟨some d, .typeAssert x t1 t false, T, pos, af, gd⟩ E := by first | exact trivial | exact ⟨_, rfl, rfl⟩) :
    Rg P X b n dr ops lo ex fl E (⟨some d, .typeAssert x t1 t false, T, pos, af, gd⟩ :: rem) k cs Γ :=
  rg_pure rfl hdn hex rfl hg (fun _ ρ h hρ _ => by
    have h1 := hρ x (by simp [Op.operands]) _ hx
    simp only [execOp, wpE_bind', h1, Instr.typeAssert, wpE_underlying u.eq]
    cases td <;> first | exact hn.elim | (simp; rfl)) e

/-! strings -/

theorem rg_indexStr {t : TypeId} {x y : Operand} {s : ByteArray} {kk : IntKind} {i : Int} {c : UInt8} [u : Under P t .string] (hx : Env.val E x = some (.string s)) (hy : Env.val E y = some (.int kk i)) (hi : 0 ≤ i) (hc : s[i.toNat]? = some c) (e : Rg P X b n dr ops (lo + 1) ex fl ((d, .int .u8 c.toNat) :: E) rem k cs Γ)
    (hdn : d < n := by decide) (hex : NotYet ex lo := trivial) (hg : GuardOK ops ⟨some d, .index t x y, T, pos, af, gd⟩ E := by first | exact trivial | exact ⟨_, rfl, rfl⟩) :
    Rg P X b n dr ops lo ex fl E (⟨some d, .index t x y, T, pos, af, gd⟩ :: rem) k cs Γ :=
  rg_pure rfl hdn hex rfl hg (fun _ ρ h hρ _ => by
    have h1 := hρ x (by simp [Op.operands]) _ hx
    have h2 := hρ y (by simp [Op.operands]) _ hy
    simp only [execOp, wpE_bind', h1, h2, Instr.index, asIntOf, wpE_pure, wpE_underlying u.eq, hi, if_true, hc, nxv, and_self]) e

theorem rg_sliceStr {t : TypeId} {x y z : Operand} {s : ByteArray} {k1 k2 : IntKind} {i j : Int} [u : Under P t .string] (hx : Env.val E x = some (.string s)) (hy : Env.val E y = some (.int k1 i)) (hz : Env.val E z = some (.int k2 j)) (hi : 0 ≤ i ∧ i ≤ j ∧ j ≤ s.size) (e : Rg P X b n dr ops (lo + 1) ex fl ((d, .string (s.extract i.toNat j.toNat)) :: E) rem k cs Γ)
    (hdn : d < n := by decide) (hex : NotYet ex lo := trivial) (hg : GuardOK ops ⟨some d, .slice t x (some y) (some z) none, T, pos, af, gd⟩ E := by first | exact trivial | exact ⟨_, rfl, rfl⟩) :
    Rg P X b n dr ops lo ex fl E (⟨some d, .slice t x (some y) (some z) none, T, pos, af, gd⟩ :: rem) k cs Γ :=
  rg_pure rfl hdn hex rfl hg (fun _ ρ h hρ _ => by
    have h1 := hρ x (by simp [Op.operands]) _ hx
    have h2 := hρ y (by simp [Op.operands]) _ hy
    have h3 := hρ z (by simp [Op.operands]) _ hz
    have a1 : 0 ≤ j := by omega
    have a2 : i ≤ (j.toNat : Int) := by omega
    simp only [execOp, wpE_bind', h1, h2, h3, Instr.sliceAt, Option.map_some, Option.map_none, wpE_underlying u.eq, Instr.slice, Instr.sliceBounds, Instr.sliceBound, asIntOf, wpE_pure, hi.1, a1, hi.2.2, a2, and_self, if_true, Option.isSome_none, Bool.false_eq_true, if_false, nxv]) e

theorem rg_append {t el m bytes : Nat} {t2 el2 : TypeId} {x y : Operand} {s yv : Value} {xs ys : List Value} {len c : Nat} [u : Under P t (.slice el)] [u2 : Under P t2 (.slice el2)] [eo : ElemOf P el m bytes] (hx : Env.val E x = some s) (hy : Env.val E y = some yv)
    (sv : SrcV Γ yv m ys c) (hone : ∀ v ∈ ys, oneC v = true) (hbd : 81 * (len + c + 768) * bytes ≤ 2 ^ 48) (hbd2 : len + c < 2 ^ 62) (hr : ∀ s', dr = false ∨ Reval ops ex lo fl (.pr (SlV el m s' (xs ++ ys) (len + c)) :: Γ))
    (e : ∀ s', oneC s' = true → Rg P X b n dr ops (lo + 1) ex fl ((d, s') :: E) rem k cs (.pr (SlV el m s' (xs ++ ys) (len + c)) :: Γ))
    (hdn : d < n := by decide) (hex : NotYet ex lo := trivial) (hg : GuardOK ops ⟨some d, .call ⟨.builtin .append, ⟨[x, y]⟩, ⟨[t, t2]⟩⟩, T, pos, af, gd⟩ E := by first | exact trivial | exact ⟨_, rfl, rfl⟩)
    (hc : dr = false ∨ chkLast ops lo ex = true := by first | exact .inl rfl | exact .inr (by decide +kernel)) :
    Rg P X b n dr ops lo ex fl E (⟨some d, .call ⟨.builtin .append, ⟨[x, y]⟩, ⟨[t, t2]⟩⟩, T, pos, af, gd⟩ :: rem) k cs (.pr (SlV el m s xs len) :: Γ) := by
  refine rg_loud (φ := fun v Γ' => oneC v = true ∧ Γ' = .pr (SlV el m v (xs ++ ys) (len + c)) :: Γ) (fun d e => by cases e; exact hdn) hex hg hc ?_ ?_
  · refine does_of_wp rfl fun ρ h hρ st => ?_
    have h1 := hρ x (by simp [Op.operands, Call.operands]) _ hx
    have h2 := hρ y (by simp [Op.operands, Call.operands]) _ hy
    refine wpE_builtin rfl ?_
    simp only [List.map_toArray, List.map_cons, List.map_nil, h1, h2, builtin, wpE_bind', wpE_pure]
    exact wpE_append st sv hone hbd hbd2 fun s' h' st' => ⟨s', _, rfl, ⟨by obtain ⟨_, _, _, v, _⟩ := st'; exact v.one, rfl⟩, st'⟩
  · rintro s' Γ' ⟨h1, rfl⟩
    exact ⟨hr s', e s' h1⟩

/-- 'make([]T, len, cap)'. -/
theorem rg_makeSlice {t el m bytes : Nat} {x y : Operand} {k1 k2 : IntKind} {len : Nat} {z : Value} [u : Under P t (.slice el)] [eo : ElemOf P el m bytes] [zz : ZeroOf P el z] (hx : Env.val E x = some (.int k1 len)) (hy : Env.val E y = some (.int k2 len)) (hm : z.cells.toList = [z]) (hm1 : m = 1) (hbd : bytes * len ≤ 2 ^ 48) (hbd2 : len < 2 ^ 62)
    (hr : ∀ bl, dr = false ∨ Reval ops ex lo fl (.pt bl true (.cells ⟨List.replicate len z⟩ el (0, 0)) :: Γ))
    (e : ∀ bl, Rg P X b n dr ops (lo + 1) ex fl ((d, .slice (some ⟨bl, 0, none⟩) len len) :: E) rem k cs (.pt bl true (.cells ⟨List.replicate len z⟩ el (0, 0)) :: Γ))
    (hdn : d < n := by decide) (hex : NotYet ex lo := trivial) (hg : GuardOK ops ⟨some d, .makeSlice t x y, T, pos, af, gd⟩ E := by first | exact trivial | exact ⟨_, rfl, rfl⟩)
    (hc : dr = false ∨ chkLast ops lo ex = true := by first | exact .inl rfl | exact .inr (by decide +kernel)) :
    Rg P X b n dr ops lo ex fl E (⟨some d, .makeSlice t x y, T, pos, af, gd⟩ :: rem) k cs Γ := by
  refine rg_loud (φ := fun v Γ' => ∃ bl, v = .slice (some ⟨bl, 0, none⟩) len len ∧ Γ' = .pt bl true (.cells ⟨List.replicate len z⟩ el (0, 0)) :: Γ) (fun d e => by cases e; exact hdn) hex hg hc ?_ ?_
  · refine does_of_wp rfl fun ρ h hρ st => ?_
    have h1 := hρ x (by simp [Op.operands]) _ hx
    have h2 := hρ y (by simp [Op.operands]) _ hy
    obtain ⟨i, z', i1, i2, i3, i4, i5⟩ := eo.eq
    obtain ⟨i', j1, j2⟩ := zz.eq
    rw [i1] at j1; cases j1; rw [i4] at j2; cases j2
    have hw : IntKind.i64.wrap (len : Int) = len := by
      have h1 : (len : Int) % 2 ^ 64 = len := by omega
      simp only [IntKind.wrap, IntKind.bits, IntKind.signed, h1, Bool.true_and, decide_eq_true_eq]; rw [if_neg (by omega)]
    have hz1 : z.cells = #[z] := by apply Array.toList_inj.1; simpa using hm
    simp only [execOp, wpE_bind', h1, h2, Instr.makeSlice, wpE_underlying u.eq, asInt, asIntOf, wpE_pure, wpE_typeInfo i1, hw, Int.toNat_natCast]
    rw [if_neg]
    · have hask : ∀ (Q : Unit → LH → Prop), Q () h → wpE P (askRoom (len * i.bytes)) Q h := by
        intro Q q
        unfold askRoom
        split
        · exact ⟨rfl, q⟩
        · exact q
      simp only [wpE_bind']
      refine hask _ ?_
      simp only [wpE_sizeOf i1, i2, hm1, Nat.mul_one]
      have fin : ∀ (zc : Array Value), (len = 0 ∨ zc = #[z]) → wpE P (newRow el ((Array.range len).map (fun x => zc[x % zc.size]!))) (fun a h' => wpE P (pure (Value.slice (some a) len len)) (fun a h' => wpE P (pure (Next.value a)) (fun nx h' => ∃ v Γ', nxv nx = some v ∧ (∃ bl, v = .slice (some ⟨bl, 0, none⟩) len len ∧ Γ' = .pt bl true (.cells ⟨List.replicate len z⟩ el (0, 0)) :: Γ) ∧ Star Γ' h') h') h') h := by
        intro zc hzc
        simp only [newRow, newObj, wpE_bind', wpE, wpE_pure]
        intro bl hbl
        refine ⟨_, _, rfl, ⟨bl, rfl, rfl⟩, ?_⟩
        have : (Array.map (fun x => zc[x % zc.size]!) (Array.range len)) = ⟨List.replicate len z⟩ := by
          apply Array.ext
          · simp
          · intro j hj1 hj2
            rcases hzc with h0 | h0
            · subst h0; simp at hj1
            · subst h0; simp [Nat.mod_one]
        rw [this]
        exact st.new hbl
      by_cases h0 : len = 0
      · rw [if_pos h0]; simp only [wpE_bind', wpE_pure]; exact fin #[] (.inl h0)
      · rw [if_neg h0]; simp only [wpE_bind', wpE_zeroValue i1 i4, wpE_pure, hz1]; exact fin #[z] (.inr rfl)
    · have hb : (i.bytes : Int) * len ≤ 2 ^ 48 := by rw [i3]; exact_mod_cast hbd
      simp only [Bool.or_eq_true, decide_eq_true_eq, not_or]
      omega
  · rintro v Γ' ⟨bl, rfl, rfl⟩
    exact ⟨hr bl, e bl⟩

end

end Go.Lx

namespace Go.Lx
open Go

/-- Ways that meet again: what they meet in is found as the first comes there. -/
theorem join (φ : Prop) {C G : Prop} (f : (φ → C) → G) (c : φ → C) : G := f c

class Nth (Γ : List Ch) (i : Nat) (c : outParam Ch) (Γ' : outParam (List Ch)) : Prop where
  perm : Γ.Perm (c :: Γ')
instance nth_zero {Γ : List Ch} {c : Ch} : Nth (c :: Γ) 0 c Γ := ⟨.refl _⟩
instance nth_succ {Γ Γ' : List Ch} {c d : Ch} {i : Nat} [e : Nth Γ i c Γ'] : Nth (d :: Γ) (i + 1) c (d :: Γ') := ⟨(e.perm.cons d).trans (.swap _ _ _)⟩

/-- What Γ' says follows from Γ, of a part of the heap. -/
def Ent (Γ Γ' : List Ch) : Prop := ∀ h, Star Γ h → ∃ h', h'.Le h ∧ Star Γ' h'

theorem Ent.refl (Γ : List Ch) : Ent Γ Γ := fun h s => ⟨h, .refl h, s⟩
theorem Ent.trans {Γ Γ' Γ'' : List Ch} (a : Ent Γ Γ') (b : Ent Γ' Γ'') : Ent Γ Γ'' := fun h s => by
  obtain ⟨h1, l1, s1⟩ := a h s
  obtain ⟨h2, l2, s2⟩ := b h1 s1
  exact ⟨h2, l2.trans l1, s2⟩
theorem Ent.star {Γ Γ' : List Ch} (a : ∀ h, Star Γ h → Star Γ' h) : Ent Γ Γ' := fun h s => ⟨h, .refl h, a h s⟩
theorem Ent.perm {Γ Γ' : List Ch} (p : Γ.Perm Γ') : Ent Γ Γ' := .star fun _ s => s.perm p
theorem Ent.drop {Γ Γ' : List Ch} {c : Ch} (a : Ent Γ Γ') : Ent (c :: Γ) Γ' := Ent.trans (fun _ s => s.drop) a

theorem Join.mono {h1 h2 h h1' : LH} (j : Join h1 h2 h) (l : h1'.Le h1) : ∃ h', h'.Le h ∧ Join h1' h2 h' := by
  refine ⟨fun b => match h1' b with | some x => some x | none => h2 b, ?_, ?_⟩
  · intro b p o e
    cases e1 : h1' b with
    | some x =>
      obtain ⟨p1, o1⟩ := x
      simp only [e1] at e; cases e
      obtain ⟨p', e2, q⟩ := l b p o e1
      obtain ⟨p'', e3, q'⟩ := j.le_left b p' o e2
      exact ⟨p'', e3, fun hp => q' (q hp)⟩
    | none => simp only [e1] at e; exact j.le_right b p o e
  · intro b
    cases e1 : h1' b with
    | none => left; simp [e1]
    | some x =>
      obtain ⟨p1, o1⟩ := x
      obtain ⟨p', e2, q⟩ := l b p1 o1 e1
      rcases j b with ⟨x, _⟩ | ⟨y, _⟩ | ⟨o', x, y, z⟩
      · rw [x] at e2; cases e2
      · right; left; simp [e1, y]
      · right; right; rw [x] at e2; cases e2
        cases p1 with
        | true => cases q rfl
        | false => exact ⟨o1, rfl, y, by simp [e1]⟩

theorem Ent.cons {Γ Γ' : List Ch} {c : Ch} (a : Ent Γ Γ') : Ent (c :: Γ) (c :: Γ') := fun h s => by
  obtain ⟨h1, h2, j, sc, s2⟩ := s
  obtain ⟨h2', l, s2'⟩ := a h2 s2
  obtain ⟨h', l', j'⟩ := j.comm.mono l
  exact ⟨h', l', h1, h2', j'.comm, sc, s2'⟩

/-- A part alone is turned. -/
theorem Ent.head {A B : LH → Prop} {Γ : List Ch} (a : ∀ h, A h → ∃ h', h'.Le h ∧ B h') : Ent (.pr A :: Γ) (.pr B :: Γ) := fun h s => by
  obtain ⟨h1, h2, j, sa, s2⟩ := s
  obtain ⟨h1', l, sb⟩ := a h1 sa
  obtain ⟨h', l', j'⟩ := j.mono l
  exact ⟨h', l', h1', h2, j', sb, s2⟩

theorem Ent.snd {Γ Γ' : List Ch} {c d : Ch} (a : Ent Γ (c :: d :: Γ')) : Ent Γ (c :: Γ') := a.trans (Ent.cons (Ent.drop (.refl _)))
/-- The same, read from its right side: so that what is folded is told before its parts are looked for. -/
def EntR (Γ' Γ : List Ch) : Prop := Ent Γ Γ'
theorem EntR.e {Γ Γ' : List Ch} (a : EntR Γ' Γ) : Ent Γ Γ' := a
theorem Ent.append {Γ Γ' Δ : List Ch} (a : Ent Γ Γ') : Ent (Γ ++ Δ) (Γ' ++ Δ) := fun h s => by
  obtain ⟨h1, h2, j, sa, s2⟩ := Star.append.1 s
  obtain ⟨h1', l, sb⟩ := a h1 sa
  obtain ⟨h', l', j'⟩ := j.mono l
  exact ⟨h', l', Star.append.2 ⟨h1', h2, j', sb, s2⟩⟩

section
variable {P : Program} {X : Tgt} {b : Base} {n : Nat} {dr : Bool} {ops : Array Oper} {lo : Nat} {ex : List Nat} {fl : Floats} {E : Env} {rem : List Oper} {k : List Item} {cs : List Frame} {Γ Γ' : List Ch}

theorem Ex.ent (a : Ent Γ Γ') (e : Ex P X b n E k cs Γ') : Ex P X b n E k cs Γ := e.starLe a
theorem CallsX.ent {f : FuncId} {args : Array Value} {φ : Value → List Ch → Prop} (a : Ent Γ Γ') (c : CallsX P f args Γ' φ) : CallsX P f args Γ φ := fun X cs h s e => by
  obtain ⟨h', l, s'⟩ := a h s
  exact (c X cs h' s' e).mono l
theorem Ex.front (i : Nat) {c : Ch} [e : Nth Γ i c Γ'] (x : Ex P X b n E k cs (c :: Γ')) : Ex P X b n E k cs Γ := x.perm e.perm
/-- What is known of the heap is opened: names for what there is. -/
theorem Ex.open_ {ι : Type} {Δ : ι → List Ch} {φ : ι → Prop} (o : ∀ h, Star Γ h → ∃ x, φ x ∧ Star (Δ x) h) (e : ∀ x, φ x → Ex P X b n E k cs (Δ x)) : Ex P X b n E k cs Γ := fun tmps h t s =>
  let ⟨x, hx, s'⟩ := o h s; e x hx tmps h t s'
theorem CallsX.open_ {ι : Type} {Δ : ι → List Ch} {φ' : ι → Prop} {f : FuncId} {args : Array Value} {φ : Value → List Ch → Prop} (o : ∀ h, Star Γ h → ∃ x, φ' x ∧ Star (Δ x) h) (e : ∀ x, φ' x → CallsX P f args (Δ x) φ) : CallsX P f args Γ φ := fun X cs h s r =>
  let ⟨x, hx, s'⟩ := o h s; e x hx X cs h s' r

theorem Rg.starLe (a : Ent Γ Γ') (hfl : dr = false ∨ ∀ i c, (i, c) ∈ fl → c Γ → c Γ') (e : Rg P X b n dr ops lo ex fl E rem k cs Γ') : Rg P X b n dr ops lo ex fl E rem k cs Γ := by
  intro hrem
  cases dr with
  | false =>
    intro hx R h t s
    obtain ⟨h', l, s'⟩ := a h s
    exact (e hrem hx R h' t s').mono l
  | true =>
    have hfl := hfl.resolve_left (by simp)
    intro kk hcl Xs R T h st s l lin
    obtain ⟨h', le, s'⟩ := a h s
    refine (e hrem kk hcl Xs R T h' ⟨st.tm, st.sz, st.rel, st.tk, st.cl, ?_⟩ s' l lin).mono le
    intro i o h1 h2 h3
    rcases st.q i o h1 h2 h3 with q | ⟨j, c, c0, c1, c2, c3⟩
    · exact .inl q
    · exact .inr ⟨j, c, c0, c1, hfl j c c1 c2, c3⟩

/-- All that is claimed of the heap, anew. -/
def Refl : Floats → List Ch → Prop
  | [], _ => True
  | (_, c) :: fl, Γ => c Γ ∧ Refl fl Γ
theorem Refl.mem {Γ : List Ch} : ∀ {fl : Floats}, Refl fl Γ → ∀ i c, (i, c) ∈ fl → c Γ
  | [], _, _, _, m => by cases m
  | (j, x) :: fl, r, i, c, m => by
    rcases List.mem_cons.1 m with e | e
    · cases e; exact r.1
    · exact Refl.mem r.2 i c e

theorem Rg.supE {E' : Env} (x : Rg P X b n dr ops lo ex fl E' rem k cs Γ) (s : Sup E E') : Rg P X b n dr ops lo ex fl E rem k cs Γ := x.sup fun _ t => t.sup s

theorem Rg.front (i : Nat) {c : Ch} [e : Nth Γ i c Γ'] (x : Rg P X b n dr ops lo ex fl E rem k cs (c :: Γ')) (hfl : dr = false ∨ Refl fl (c :: Γ') := by first | exact .inl rfl | exact .inr (by (repeat' first | exact trivial | refine ⟨⟨_, _, _, _, Find.mem, rfl⟩, ?_⟩ | refine ⟨⟨_, _, _, _, Find.mem, inferInstance⟩, ?_⟩ | refine ⟨⟨_, Find.mem⟩, ?_⟩))) : Rg P X b n dr ops lo ex fl E rem k cs Γ :=
  Rg.starLe (.perm e.perm) (hfl.imp id fun r i c m _ => r.mem i c m) x
theorem Rg.ent (a : Ent Γ Γ') (x : Rg P X b n dr ops lo ex fl E rem k cs Γ') (hfl : dr = false ∨ Refl fl Γ' := by first | exact .inl rfl | exact .inr (by (repeat' first | exact trivial | refine ⟨⟨_, _, _, _, Find.mem, rfl⟩, ?_⟩ | refine ⟨⟨_, _, _, _, Find.mem, inferInstance⟩, ?_⟩ | refine ⟨⟨_, Find.mem⟩, ?_⟩))) : Rg P X b n dr ops lo ex fl E rem k cs Γ :=
  Rg.starLe a (hfl.imp id fun r i c m _ => r.mem i c m) x

theorem ex_rete {φ : Value → List Ch → Prop} {fn : Func} {vs : List Value} (ret : ∀ fr v Γ' h', φ v Γ' → Retd P b.fn v Γ' fr → Star Γ' h' → Ev P X (gor fr cs) h') (hf : P.funcs[b.fn]? = some fn) (hv : resV E fn.results.toList = some vs)
    (en : Ent Γ Γ') (e : φ (packV vs) Γ') (hk : b.kind = .normal := by rfl) (hd : b.defers = [] := by rfl) (hr : b.ro = none := by rfl) : Ex P X b n E (.code .ret :: k) cs Γ :=
  Ex.ent en (ex_retc ret hf hv e hk hd hr)
theorem ex_ende {φ : Value → List Ch → Prop} {fn : Func} {vs : List Value} (ret : ∀ fr v Γ' h', φ v Γ' → Retd P b.fn v Γ' fr → Star Γ' h' → Ev P X (gor fr cs) h') (hf : P.funcs[b.fn]? = some fn) (hv : resV E fn.results.toList = some vs)
    (en : Ent Γ Γ') (e : φ (packV vs) Γ') (hk : b.kind = .normal := by rfl) (hd : b.defers = [] := by rfl) (hr : b.ro = none := by rfl) : Ex P X b n E [] cs Γ :=
  Ex.ent en (ex_endc ret hf hv e hk hd hr)
end

/-! heaps that are only read may be had twice -/
def roPart (h : LH) : LH := fun b => match h b with | some (false, o) => some (false, o) | _ => none
theorem roPart_join (h : LH) : Join (roPart h) h h := fun b => by
  unfold roPart
  cases e : h b with
  | none => left; simp
  | some x =>
    obtain ⟨p, o⟩ := x
    cases p with
    | true => left; simp
    | false => right; right; exact ⟨o, by simp, rfl, rfl⟩
def Pers (A : LH → Prop) : Prop := ∀ h, A h → A (roPart h)
theorem Star.dupP {A : LH → Prop} {Γ : List Ch} (p : Pers A) {h : LH} (s : Star (.pr A :: Γ) h) : Star (.pr A :: .pr A :: Γ) h := by
  obtain ⟨h1, h2, j, sa, s2⟩ := s
  obtain ⟨h12, x, y⟩ := (roPart_join h1).assoc j
  exact ⟨roPart h1, h12, y, p _ sa, h1, h2, x, sa, s2⟩
theorem Ent.dup {A : LH → Prop} {Γ : List Ch} (p : Pers A) : Ent (.pr A :: Γ) (.pr A :: .pr A :: Γ) := .star fun _ s => Star.dupP p s
theorem pers_pt {b : Nat} {o : Obj} : Pers (Ch.pt b false o).sat := fun h e => by
  have e' : h b = some (false, o) := e
  show roPart h b = _
  unfold roPart; rw [e']
theorem roPart_Join {h1 h2 h : LH} (j : Join h1 h2 h) : Join (roPart h1) (roPart h2) (roPart h) := fun b => by
  unfold roPart
  rcases j b with ⟨x, y⟩ | ⟨x, y⟩ | ⟨o, x, y, z⟩
  · left; simp [x, y]
  · right; left; simp [x, y]
  · right; right; exact ⟨o, by simp [x], by simp [y], by simp [z]⟩
theorem pers_star : ∀ {Γ : List Ch}, (∀ c ∈ Γ, Pers c.sat) → Pers (Star Γ)
  | [], _ => fun _ _ => trivial
  | c :: Γ, hp => fun h s => by
    obtain ⟨h1, h2, j, sa, s2⟩ := s
    exact ⟨roPart h1, roPart h2, roPart_Join j, hp c (List.mem_cons_self ..) _ sa, pers_star (fun d hd => hp d (List.mem_cons_of_mem _ hd)) _ s2⟩

end Go.Lx

namespace Go.Lx
open Go

section
variable {P : Program} {X : Tgt} {b : Base} {n : Nat} {dr : Bool} {ops : Array Oper} {lo : Nat} {ex : List Nat} {fl : Floats} {E : Env} {rem : List Oper} {k : List Item} {cs : List Frame} {Γ : List Ch}
variable {d : Nat} {T : TypeId} {pos : String} {af : Array Edge} {gd : Option (Nat × Bool)}

theorem rg_range {t K el : TypeId} {x : Operand} {m ck : Nat} {es : List MapEntry} {p : Bool} [u : Under P t (.map K el)] (hx : Env.val E x = some (.map (some m))) [fd : Find Γ m p (.map ⟨es⟩ ck)]
    (e : ∀ r, Rg P X b n dr ops (lo + 1) ex fl ((d, .pointer (some ⟨r, 0, none⟩)) :: E) rem k cs (.pt r true (.mapIter (some m) ck ⟨[]⟩ ck) :: Γ))
    (hdn : d < n := by decide) (hex : NotYet ex lo := trivial) (hg : GuardOK ops ⟨some d, .range t x, T, pos, af, gd⟩ E := by first | exact trivial | exact ⟨_, rfl, rfl⟩)
    (hc : dr = false ∨ chkLast ops lo ex = true := by first | exact .inl rfl | exact .inr (by decide +kernel))
    (hr : ∀ r, dr = false ∨ Reval ops ex lo fl (.pt r true (.mapIter (some m) ck ⟨[]⟩ ck) :: Γ) := by first | exact fun _ => .inl rfl | exact fun _ => .inr (by (repeat' first | exact trivial | refine ⟨.inr ⟨_, _, _, _, Find.mem, rfl⟩, ?_⟩ | refine ⟨.inr ⟨_, _, _, _, Find.mem, inferInstance⟩, ?_⟩ | refine ⟨.inr ⟨_, Find.mem⟩, ?_⟩ | refine ⟨.inl (by decide +kernel), ?_⟩))) :
    Rg P X b n dr ops lo ex fl E (⟨some d, .range t x, T, pos, af, gd⟩ :: rem) k cs Γ := by
  refine rg_loud (φ := fun v Γ' => ∃ r, v = .pointer (some ⟨r, 0, none⟩) ∧ Γ' = .pt r true (.mapIter (some m) ck ⟨[]⟩ ck) :: Γ) (fun d' e => by cases e; exact hdn) hex hg hc ?_ ?_
  · refine does_of_wp rfl fun ρ h hρ st => ?_
    have h1 := hρ x (by simp [Op.operands]) _ hx
    have hm := Star.mem fd.mem st
    simp only [execOp, wpE_bind', h1, Instr.range, wpE_underlying u.eq]
    refine wpE_getObj hm rfl ?_
    simp only [newObj, wpE_pure]
    intro r hr'
    exact ⟨_, _, rfl, ⟨r, rfl, rfl⟩, st.new hr'⟩
  · rintro v Γ' ⟨r, rfl, rfl⟩
    exact ⟨hr r, e r⟩

/-- What a step of a range over a map that is not turned meanwhile may give. -/
def NextOf (m ck : Nat) (es : List MapEntry) (seen : List Nat) (f : Obj → List Ch) (v : Value) (Γ' : List Ch) : Prop :=
  (v = .tuple #[.bool false] ∧ Γ' = f (.mapIter (some m) ck ⟨seen⟩ ck) ∧ ∀ e ∈ es, e.born ∈ seen) ∨
  (∃ e, e ∈ es ∧ e.born ∉ seen ∧ v = .tuple #[.bool true, e.key, e.val] ∧ Γ' = f (.mapIter (some m) ck ⟨seen ++ [e.born]⟩ ck))

theorem does_next {x : Operand} {r m ck : Nat} {es : List MapEntry} {seen : List Nat} {p : Bool} {f : Obj → List Ch} {dst : Option Tmp} (hx : Env.val E x = some (.pointer (some ⟨r, 0, none⟩))) [rp : Repl Γ r (.mapIter (some m) ck ⟨seen⟩ ck) f] [fd : Find Γ m p (.map ⟨es⟩ ck)] (hb : ∀ e ∈ es, e.born < ck) :
    Does P X ⟨dst, .next x false, T, pos, af, gd⟩ E Γ (NextOf m ck es seen f) := by
  refine does_of_wp rfl fun ρ h hρ st => ?_
  have h1 := hρ x (by simp [Op.operands]) _ hx
  have hm := Star.mem fd.mem st
  obtain ⟨Δ, p1, p2⟩ := rp.perm
  have st' := st.perm p1
  have hi := Star.mem (List.mem_cons_self ..) st'
  have hst : Star (f (.mapIter (some m) ck ⟨seen⟩ ck)) h := st'.perm (p2 _)
  simp only [execOp, wpE_bind', h1, Instr.next]
  refine wpE_getObj hi rfl ?_
  simp only [wpE_bind']
  refine wpE_getObj hm rfl ?_
  have hnew : (es.filter fun e => !seen.contains e.born).filter (fun e => decide (ck ≤ e.born)) = [] := by
    rw [List.filter_eq_nil_iff]
    intro e he
    have := hb e (List.mem_filter.1 he).1
    simp; omega
  have hold : (es.filter fun e => !seen.contains e.born).filter (fun e => decide (e.born < ck)) = es.filter fun e => !seen.contains e.born := by
    rw [List.filter_eq_self]
    intro e he
    have := hb e (List.mem_filter.1 he).1
    simpa using this
  have hchk : (!(⟨seen⟩ : Array Nat).isEmpty && !(⟨es⟩ : Array MapEntry).isEmpty && (⟨es⟩ : Array MapEntry).all fun x => decide (x.born ≥ ck)) = false := by
    cases es with
    | nil => simp
    | cons e es =>
      have := hb e (List.mem_cons_self ..)
      simp; intro _ h; omega
  dsimp only []
  rw [hchk]
  simp only [Bool.false_eq_true, if_false, wpE_bind']
  have a1 : (Array.filter (fun e => !(⟨seen⟩ : Array Nat).contains e.born) (⟨es⟩ : Array MapEntry)) = ⟨es.filter fun e => !seen.contains e.born⟩ := by simp
  rw [a1]
  generalize hL : (es.filter fun e => !seen.contains e.born) = L at *
  have a2 : (Array.filter (fun x => decide (x.born < ck)) (⟨L⟩ : Array MapEntry)) = ⟨L⟩ := by simpa using hold
  have a3 : (Array.filter (fun x => decide (x.born ≥ ck)) (⟨L⟩ : Array MapEntry)) = ⟨[]⟩ := by simpa using hnew
  rw [a2, a3]
  have a4 : Array.map some ((⟨L⟩ : Array MapEntry) ++ (⟨[]⟩ : Array MapEntry)) = ⟨L.map some⟩ := by simp
  rw [a4]
  cases hL' : L with
  | nil =>
    simp only [List.isEmpty_toArray, List.isEmpty_nil, if_true, List.map_nil]
    intro c hc
    have hc0 : c = 0 := by
      have : (Question.mapNext ((#[none] : Array (Option MapEntry)) ++ ⟨[]⟩).size).forced = true := by decide
      rw [if_pos this] at hc; exact hc
    subst hc0
    refine ⟨_, _, rfl, .inl ⟨rfl, rfl, fun e he => ?_⟩, hst⟩
    have h0 : e ∉ L := by rw [hL']; simp
    rw [← hL] at h0
    simpa [he] using h0
  | cons e0 L0 =>
    simp only [List.isEmpty_toArray, List.isEmpty_cons, Bool.false_eq_true, if_false]
    intro c hc
    have hc0 : c < (e0 :: L0).length := by
      have hsz : ((#[] : Array (Option MapEntry)) ++ ⟨(e0 :: L0).map some⟩).size = (e0 :: L0).length := by simp
      rw [hsz] at hc
      split at hc
      · subst hc; simp
      · obtain ⟨t, rfl⟩ := hc
        exact Nat.mod_lt _ (by simp)
    have hget : ((#[] : Array (Option MapEntry)) ++ ⟨(e0 :: L0).map some⟩)[c]? = some (some (e0 :: L0)[c]) := by
      have h0 : (#[] : Array (Option MapEntry)) ++ ⟨(e0 :: L0).map some⟩ = ⟨(e0 :: L0).map some⟩ := by simp
      rw [h0, List.getElem?_toArray, List.getElem?_map, List.getElem?_eq_getElem hc0]; rfl
    simp only [wpE_pure']
    rw [hget]
    have hin : (e0 :: L0)[c] ∈ es.filter fun e => !seen.contains e.born := by rw [hL, hL']; exact List.getElem_mem _
    have hin' := List.mem_filter.1 hin
    simp only [wpE_bind']
    refine wpE_setObj hi rfl ?_
    simp only [wpE_pure]
    refine ⟨_, _, rfl, .inr ⟨(e0 :: L0)[c], hin'.1, by simpa using hin'.2, rfl, rfl⟩, ?_⟩
    have := (st'.put (o' := .mapIter (some m) ck ⟨seen ++ [(e0 :: L0)[c].born]⟩ ck)).perm (p2 _)
    simpa using this

theorem rg_next {x : Operand} {r m ck : Nat} {es : List MapEntry} {seen : List Nat} {p : Bool} {f : Obj → List Ch} (hx : Env.val E x = some (.pointer (some ⟨r, 0, none⟩))) [rp : Repl Γ r (.mapIter (some m) ck ⟨seen⟩ ck) f] [fd : Find Γ m p (.map ⟨es⟩ ck)] (hb : ∀ e ∈ es, e.born < ck)
    (e0 : (∀ e ∈ es, e.born ∈ seen) → Rg P X b n dr ops (lo + 1) ex fl ((d, .tuple #[.bool false]) :: E) rem k cs (f (.mapIter (some m) ck ⟨seen⟩ ck)))
    (e1 : ∀ e ∈ es, e.born ∉ seen → Rg P X b n dr ops (lo + 1) ex fl ((d, .tuple #[.bool true, e.key, e.val]) :: E) rem k cs (f (.mapIter (some m) ck ⟨seen ++ [e.born]⟩ ck)))
    (hdr : dr = false := by rfl) (hdn : d < n := by decide) (hex : NotYet ex lo := trivial) (hg : GuardOK ops ⟨some d, .next x false, T, pos, af, gd⟩ E := by first | exact trivial | exact ⟨_, rfl, rfl⟩) :
    Rg P X b n dr ops lo ex fl E (⟨some d, .next x false, T, pos, af, gd⟩ :: rem) k cs Γ := by
  refine rg_loud (fun d' e => by cases e; exact hdn) hex hg (.inl hdr) (does_next hx hb) ?_
  rintro v Γ' (⟨rfl, rfl, h⟩ | ⟨e, he, hs, rfl, rfl⟩)
  · exact ⟨.inl hdr, e0 h⟩
  · exact ⟨.inl hdr, e1 e he hs⟩

theorem rg_entry {x : Operand} {r m ck st0 : Nat} {es : List MapEntry} {seen : List Nat} {p p' : Bool} {e' : MapEntry} (hx : Env.val E x = some (.pointer (some ⟨r, 0, none⟩))) [fi : Find Γ r p' (.mapIter (some m) ck ⟨seen ++ [st0]⟩ ck)] [fd : Find Γ m p (.map ⟨es⟩ ck)] (hf : es.find? (fun e => e.born == st0) = some e')
    (e : Rg P X b n dr ops (lo + 1) ex fl ((d, .tuple #[e'.key, e'.val]) :: E) rem k cs Γ)
    (hdr : dr = false := by rfl) (hdn : d < n := by decide) (hex : NotYet ex lo := trivial) (hg : GuardOK ops ⟨some d, .entry x, T, pos, af, gd⟩ E := by first | exact trivial | exact ⟨_, rfl, rfl⟩) :
    Rg P X b n dr ops lo ex fl E (⟨some d, .entry x, T, pos, af, gd⟩ :: rem) k cs Γ := by
  refine rg_loud (φ := fun v Γ' => v = .tuple #[e'.key, e'.val] ∧ Γ' = Γ) (fun d' e => by cases e; exact hdn) hex hg (.inl hdr) ?_ ?_
  · refine does_of_wp rfl fun ρ h hρ st => ?_
    have h1 := hρ x (by simp [Op.operands]) _ hx
    have hm := Star.mem fd.mem st
    have hi := Star.mem fi.mem st
    simp only [execOp, wpE_bind', h1, Instr.entry]
    refine wpE_getObj hi rfl ?_
    have hback : (⟨seen ++ [st0]⟩ : Array Nat).back? = some st0 := by simp
    have hfind : (⟨es⟩ : Array MapEntry).find? (fun e => e.born == st0) = some e' := by simpa using hf
    dsimp only []
    rw [hback]
    simp only [wpE_bind']
    refine wpE_getObj hm rfl ?_
    simp only [bne_self_eq_false, Bool.false_eq_true, if_false, hfind]
    simp only [wpE_pure]
    exact ⟨_, _, rfl, ⟨rfl, rfl⟩, st⟩
  · rintro v Γ' ⟨rfl, rfl⟩
    exact ⟨.inl hdr, e⟩

/-- Of entries whose births differ, the one that is searched by its birth. -/
theorem find_born {es : List MapEntry} (hp : es.Pairwise (fun x y => x.born ≠ y.born)) {e : MapEntry} (he : e ∈ es) : es.find? (fun x => x.born == e.born) = some e := by
  induction es with
  | nil => cases he
  | cons a l ih =>
    rw [List.pairwise_cons] at hp
    rcases List.mem_cons.1 he with rfl | he
    · simp
    · rw [List.find?_cons_of_neg, ih hp.2 he]
      simpa using hp.1 e he

/-- How many entries a range has not come to. -/
def left (es : List MapEntry) (seen : List Nat) : Nat := (es.filter fun e => !seen.contains e.born).length

theorem left_lt {es : List MapEntry} {seen : List Nat} {e : MapEntry} (he : e ∈ es) (hs : e.born ∉ seen) : left es (seen ++ [e.born]) < left es seen := by
  unfold left
  have hle : ∀ l : List MapEntry, (l.filter fun x => !(seen ++ [e.born]).contains x.born).length ≤ (l.filter fun x => !seen.contains x.born).length := by
    intro l
    induction l with
    | nil => exact Nat.le_refl _
    | cons a l ih =>
      simp only [List.filter_cons]
      by_cases h1 : a.born ∈ seen
      · simp [h1]; simpa using ih
      · by_cases h2 : a.born = e.born
        · simp [h2, hs]; have := ih; simp at this; omega
        · simp [h1, h2]; simpa using ih
  induction es with
  | nil => cases he
  | cons a l ih =>
    simp only [List.filter_cons]
    rcases List.mem_cons.1 he with rfl | he
    · simp [hs]; have := hle l; simp at this; omega
    · have := ih he
      by_cases h1 : a.born ∈ seen
      · simp [h1]; simpa using this
      · by_cases h2 : a.born = e.born
        · simp [h2, hs]; simp at this; omega
        · simp [h1, h2]; simpa using this

/-- What is done again and again: from a state that stands for i, by all lesser ones. -/
theorem ex_ind {ι : Type} (m : ι → Nat) (E' : ι → Env) (Γ' : ι → List Ch) (φ : ι → Prop) (i0 : ι) (h0 : φ i0) (s0 : Sup E (E' i0)) (g0 : Γ = Γ' i0)
    (step : ∀ i, φ i → (∀ j, φ j → m j < m i → Ex P X b n (E' j) k cs (Γ' j)) → Ex P X b n (E' i) k cs (Γ' i)) : Ex P X b n E k cs Γ := by
  have all : ∀ N i, m i < N → φ i → Ex P X b n (E' i) k cs (Γ' i) := by
    intro N
    induction N with
    | zero => intro i h; exact absurd h (Nat.not_lt_zero _)
    | succ N ih => intro i h hi; exact step i hi fun j hj hl => ih j (by omega) hj
  subst g0
  exact Ex.sup (all _ i0 (Nat.lt_succ_self _) h0) s0

end
end Go.Lx

namespace Go.Lx
open Go

def enumV : Nat → List Value → List (Nat × Value)
  | _, [] => []
  | i, v :: vs => (i, v) :: enumV (i + 1) vs

def flatC (vs : List Value) : List Value := vs.flatMap fun v => v.cells.toList

theorem fill_seq {m : Nat} : ∀ (vs : List Value) (i : Nat) (pre rest : List Value), pre.length = i * m → rest.length = vs.length * m → (∀ v ∈ vs, v.cells.toList.length = m) →
    Instr.fill (fun i => some (i * m, m)) ⟨pre ++ rest⟩ (enumV i vs) = some ⟨pre ++ flatC vs⟩ := by
  intro vs
  induction vs with
  | nil =>
    intro i pre rest _ h _
    have : rest = [] := List.length_eq_zero_iff.1 (by simpa using h)
    subst this; rfl
  | cons v vs ih =>
    intro i pre rest h1 h2 h3
    have hv := h3 v (List.mem_cons_self ..)
    have h2' : rest.length = m + vs.length * m := by rw [h2, List.length_cons, Nat.add_mul]; omega
    haveI : SetL (pre ++ rest) (i * m) v.cells.toList (pre ++ v.cells.toList ++ rest.drop m) := ⟨pre, rest.take m, rest.drop m, by rw [List.append_assoc, List.take_append_drop], h1, by rw [List.length_take, hv]; omega, rfl⟩
    rw [enumV, fill_set (off := i * m) (l' := pre ++ v.cells.toList ++ rest.drop m) (by rw [hv])]
    rw [ih (i + 1) (pre ++ v.cells.toList) (rest.drop m) (by rw [List.length_append, h1, hv, Nat.add_mul]; omega) (by rw [List.length_drop, h2']; omega) (fun w hw => h3 w (List.mem_cons_of_mem _ hw))]
    simp [flatC]

section
variable {P : Program} {X : Tgt} {b : Base} {n : Nat} {dr : Bool} {ops : Array Oper} {lo : Nat} {ex : List Nat} {fl : Floats} {E : Env} {rem : List Oper} {k : List Item} {cs : List Frame} {Γ : List Ch}
variable {d : Nat} {T : TypeId} {pos : String} {af : Array Edge} {gd : Option (Nat × Bool)}

theorem rg_buildSlice {t el m bytes len : Nat} {parts : List (Nat × Operand)} {vs : List Value} {l : List Value} [u : Under P t (.slice el)] [eo : ElemOf P el m bytes] (hp : partsV E parts = some (enumV 0 vs)) (hlen : vs.length = len) (hc : vs.all (fun v => v.cells.size == m) = true) (hl : flatC vs = l)
    (e : ∀ bl, Rg P X b n dr ops (lo + 1) ex fl ((d, .slice (some ⟨bl, 0, none⟩) len len) :: E) rem k cs (.pt bl true (.cells ⟨l⟩ el (0, 0)) :: Γ))
    (hbd : len * m ≤ 2 ^ 24 := by decide)
    (hdn : d < n := by decide) (hex : NotYet ex lo := trivial) (hg : GuardOK ops ⟨some d, .buildSlice t len ⟨parts⟩, T, pos, af, gd⟩ E := by first | exact trivial | exact ⟨_, rfl, rfl⟩)
    (hch : dr = false ∨ chkLast ops lo ex = true := by first | exact .inl rfl | exact .inr (by decide +kernel))
    (hr : ∀ bl, dr = false ∨ Reval ops ex lo fl (.pt bl true (.cells ⟨l⟩ el (0, 0)) :: Γ) := by first | exact fun _ => .inl rfl | exact fun _ => .inr (by (repeat' first | exact trivial | refine ⟨.inr ⟨_, _, _, _, Find.mem, rfl⟩, ?_⟩ | refine ⟨.inr ⟨_, _, _, _, Find.mem, inferInstance⟩, ?_⟩ | refine ⟨.inr ⟨_, Find.mem⟩, ?_⟩ | refine ⟨.inl (by decide +kernel), ?_⟩))) :
    Rg P X b n dr ops lo ex fl E (⟨some d, .buildSlice t len ⟨parts⟩, T, pos, af, gd⟩ :: rem) k cs Γ := by
  refine rg_loud (φ := fun v Γ' => ∃ bl, v = .slice (some ⟨bl, 0, none⟩) len len ∧ Γ' = .pt bl true (.cells ⟨l⟩ el (0, 0)) :: Γ) (fun d e => by cases e; exact hdn) hex hg hch ?_ ?_
  · refine does_of_wp rfl fun ρ h hρ st => ?_
    have hpm := partsV_map parts _ (fun x hx => hρ x (by simpa [Op.operands] using hx)) hp
    obtain ⟨i, z, i1, i2, i3, i4, i5⟩ := eo.eq
    have hparts : (Array.map (fun (x : Nat × Operand) => (x.1, ρ x.2)) ⟨parts⟩).toList = enumV 0 vs := by simpa using hpm
    have hcs : ∀ v ∈ vs, v.cells.toList.length = m := fun v hv => by have := List.all_eq_true.1 hc v hv; simpa using this
    have hfin : ∀ zc : Array Value, wpE P (do
        let some cells := Instr.fill (fun i => some (i * m, m)) ((Array.range (len * m)).map (zc[· % zc.size]!)) (Array.map (fun (x : Nat × Operand) => (x.1, ρ x.2)) ⟨parts⟩).toList | stuck "buildSlice: a part of the wrong size"
        pure (Value.slice (some (← newRow el cells)) len len)) (fun a h' => ∃ v Γ', nxv (Next.value a) = some v ∧ (∃ bl, v = .slice (some ⟨bl, 0, none⟩) len len ∧ Γ' = .pt bl true (.cells ⟨l⟩ el (0, 0)) :: Γ) ∧ Star Γ' h') h := by
      intro zc
      have hfs := fill_seq (m := m) vs 0 [] ((Array.range (len * m)).map (zc[· % zc.size]!)).toList (by simp) (by rw [← hlen]; simp) hcs
      have e0 : (Array.mk ([] ++ ((Array.range (len * m)).map (zc[· % zc.size]!)).toList)) = (Array.range (len * m)).map (zc[· % zc.size]!) := by rw [List.nil_append]
      rw [e0] at hfs
      rw [hparts, hfs]
      simp only [newRow, newObj, wpE_bind', wpE, wpE_pure, List.nil_append]
      intro bl hbl
      refine ⟨_, _, rfl, ⟨bl, rfl, rfl⟩, ?_⟩
      rw [hl]
      exact st.new hbl
    simp only [execOp, wpE_bind', Instr.buildSlice, wpE_underlying u.eq, wpE_sizeOf i1, i2]
    rw [if_neg (by omega)]
    simp only [wpE_pure] at hfin ⊢
    split
    · simp only [wpE_bind', wpE_pure] at hfin ⊢
      exact hfin #[]
    · simp only [wpE_bind', wpE_zeroValue i1 i4, wpE_pure] at hfin ⊢
      exact hfin z.cells
  · rintro v Γ' ⟨bl, rfl, rfl⟩
    exact ⟨hr bl, e bl⟩

/-- 'copy' of a slice of the program's own into a new array of its length. -/
theorem rg_copyOwn {t el m bytes : Nat} {t2 : TypeId} {x y : Operand} {s : Value} {bl len cap : Nat} {l xs : List Value} [u : Under P t (.slice el)] [eo : ElemOf P el m bytes] (hx : Env.val E x = some (.slice (some ⟨bl, 0, none⟩) len cap)) (hy : Env.val E y = some s)
    (hlen : l.length = len * m) (hone : ∀ v ∈ xs, oneC v = true)
    (e : Rg P X b n dr ops (lo + 1) ex fl ((d, .int .i64 len) :: E) rem k cs (.pt bl true (.cells ⟨xs⟩ el (0, 0)) :: .pr (SlV el m s xs len) :: Γ))
    (hdn : d < n := by decide) (hex : NotYet ex lo := trivial) (hg : GuardOK ops ⟨some d, .call ⟨.builtin .copy, ⟨[x, y]⟩, ⟨[t, t2]⟩⟩, T, pos, af, gd⟩ E := by first | exact trivial | exact ⟨_, rfl, rfl⟩)
    (hc : dr = false ∨ chkLast ops lo ex = true := by first | exact .inl rfl | exact .inr (by decide +kernel))
    (hr : dr = false ∨ Reval ops ex lo fl (.pt bl true (.cells ⟨xs⟩ el (0, 0)) :: .pr (SlV el m s xs len) :: Γ) := by first | exact .inl rfl | exact .inr (by (repeat' first | exact trivial | refine ⟨.inr ⟨_, _, _, _, Find.mem, rfl⟩, ?_⟩ | refine ⟨.inr ⟨_, _, _, _, Find.mem, inferInstance⟩, ?_⟩ | refine ⟨.inr ⟨_, Find.mem⟩, ?_⟩ | refine ⟨.inl (by decide +kernel), ?_⟩))) :
    Rg P X b n dr ops lo ex fl E (⟨some d, .call ⟨.builtin .copy, ⟨[x, y]⟩, ⟨[t, t2]⟩⟩, T, pos, af, gd⟩ :: rem) k cs (.pt bl true (.cells ⟨l⟩ el (0, 0)) :: .pr (SlV el m s xs len) :: Γ) := by
  refine rg_loud (φ := fun v Γ' => v = .int .i64 len ∧ Γ' = .pt bl true (.cells ⟨xs⟩ el (0, 0)) :: .pr (SlV el m s xs len) :: Γ) (fun d e => by cases e; exact hdn) hex hg hc ?_ ?_
  · refine does_of_wp rfl fun ρ h hρ st => ?_
    have h1 := hρ x (by simp [Op.operands, Call.operands]) _ hx
    have h2 := hρ y (by simp [Op.operands, Call.operands]) _ hy
    obtain ⟨i, z, i1, i2, i3, i4, i5⟩ := eo.eq
    have hb := Star.mem (List.mem_cons_self ..) st
    have hxs : xs.length = len * m := by
      obtain ⟨_, _, _, _, _, _, _, v, _⟩ := st
      exact v.len
    have hfin : ∀ h', Star (.pt bl true (.cells ⟨xs⟩ el (0, 0)) :: .pr (SlV el m s xs len) :: Γ) h' → ∃ v Γ', nxv (Next.value (goInt len)) = some v ∧ (v = .int .i64 len ∧ Γ' = .pt bl true (.cells ⟨xs⟩ el (0, 0)) :: .pr (SlV el m s xs len) :: Γ) ∧ Star Γ' h' := fun h' st' => ⟨_, _, rfl, ⟨rfl, rfl⟩, st'⟩
    have hput := hfin _ st.put
    have hst : wpE P (storeCells ⟨bl, 0, none⟩ xs) (fun _ h' => ∃ v Γ', nxv (Next.value (goInt len)) = some v ∧ (v = .int .i64 len ∧ Γ' = .pt bl true (.cells ⟨xs⟩ el (0, 0)) :: .pr (SlV el m s xs len) :: Γ) ∧ Star Γ' h') h := by
      refine wpE_storeCells xs [] l [] 0 h hone (by simpa using hb) rfl (by rw [hlen, hxs]) (T := el) (fz := (0, 0)) (Nat.le_refl 0) ?_ ?_
      · intro _; simpa using hput
      · intro h0
        have : l = [] := List.length_eq_zero_iff.1 (by rw [hlen, ← hxs, h0]; rfl)
        subst this; subst h0
        exact hfin h st
    have hs : (s = .slice none 0 0 ∧ xs = [] ∧ len = 0) ∨ ∃ bl cap slack, s = .slice (some ⟨bl, 0, none⟩) len cap ∧ h bl = some (true, .cells ⟨xs ++ slack⟩ el (0, 0)) := by
      rcases star_slv.1 st.swap with ⟨a, b, c, _⟩ | ⟨bl, cap, slack, a, _, _, _, st'⟩
      · exact .inl ⟨a, b, c⟩
      · exact .inr ⟨bl, cap, slack, a, Star.mem (List.mem_cons_self ..) st'⟩
    refine wpE_builtin rfl ?_
    simp only [List.map_toArray, List.map_cons, List.map_nil, h1, h2, builtin, Builtin.copy_, wpE_bind', List.getElem?_toArray, List.getElem?_cons_zero, List.getElem?_cons_succ, wpE_underlying u.eq]
    rcases hs with ⟨rfl, rfl, rfl⟩ | ⟨bl', cap', slack, rfl, hb'⟩
    · simp only [Builtin.lenOf, wpE_pure, wpE_sizeOf i1, Nat.zero_min, Builtin.firstCells]
      exact hst
    · simp only [Builtin.lenOf, wpE_pure, wpE_sizeOf i1, Builtin.firstCells]
      have hmin : len.min len = len := Nat.min_self len
      rw [hmin, i2]
      haveI : SliceL (xs ++ slack) 0 (len * m) xs := ⟨[], slack, rfl, rfl, hxs⟩
      refine wpE_loadCells hb' ?_
      exact hst
  · rintro v Γ' ⟨rfl, rfl⟩
    exact ⟨hr, e⟩

end
end Go.Lx
