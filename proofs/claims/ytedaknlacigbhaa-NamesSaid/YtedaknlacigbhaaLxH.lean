/-
  THE LOGIC, EIGHTH PART: slices that grow, slice literals, make, copy, strings, functions without a body.
-/
import Derived.Test.YtedaknlacigbhaaLxG
namespace Go.Lx
open Go

/-- A slice of the program's own, from the beginning of its array: its cells, its length; the array may hold more. -/
def SlV (el m : Nat) (s : Value) (xs : List Value) (len : Nat) : LH → Prop := fun h =>
  (s = .slice none 0 0 ∧ xs = [] ∧ len = 0) ∨
  ∃ bl cap slack, s = .slice (some ⟨bl, 0, none⟩) len cap ∧ len ≤ cap ∧ xs.length = len * m ∧ slack.length = (cap - len) * m ∧ h bl = some (true, .cells ⟨xs ++ slack⟩ el (0, 0))

theorem SlV.len {el m : Nat} {s : Value} {xs : List Value} {len : Nat} {h : LH} (v : SlV el m s xs len h) : xs.length = len * m := by
  rcases v with ⟨_, h1, h2⟩ | ⟨_, _, _, _, _, h1, _, _⟩
  · subst h1; subst h2; simp
  · exact h1

theorem SlV.one {el m : Nat} {s : Value} {xs : List Value} {len : Nat} {h : LH} (v : SlV el m s xs len h) : oneC s = true := by
  rcases v with ⟨h1, _⟩ | ⟨_, _, _, h1, _⟩ <;> (subst h1; rfl)

theorem star_slv {el m : Nat} {s : Value} {xs : List Value} {len : Nat} {Γ : List Ch} {h : LH} :
    Star (.pr (SlV el m s xs len) :: Γ) h ↔ (s = .slice none 0 0 ∧ xs = [] ∧ len = 0 ∧ Star (.pr (fun _ => True) :: Γ) h) ∨
      ∃ bl cap slack, s = .slice (some ⟨bl, 0, none⟩) len cap ∧ len ≤ cap ∧ xs.length = len * m ∧ slack.length = (cap - len) * m ∧ Star (.pt bl true (.cells ⟨xs ++ slack⟩ el (0, 0)) :: Γ) h := by
  constructor
  · rintro ⟨h1, h2, j, v, st⟩
    rcases v with ⟨a, b, c⟩ | ⟨bl, cap, slack, a, b, c, d, e⟩
    · exact .inl ⟨a, b, c, h1, h2, j, trivial, st⟩
    · exact .inr ⟨bl, cap, slack, a, b, c, d, h1, h2, j, e, st⟩
  · rintro (⟨a, b, c, h1, h2, j, _, st⟩ | ⟨bl, cap, slack, a, b, c, d, h1, h2, j, e, st⟩)
    · exact ⟨h1, h2, j, .inl ⟨a, b, c⟩, st⟩
    · exact ⟨h1, h2, j, .inr ⟨bl, cap, slack, a, b, c, d, e⟩, st⟩

theorem growBy_le (nl : Nat) : ∀ (r c : Nat), Builtin.growBy nl r c ≤ 3 ^ r * (c + 768) := by
  intro r
  induction r with
  | zero => intro c; simp [Builtin.growBy]
  | succ r ih =>
    intro c
    unfold Builtin.growBy
    split
    · have : 1 ≤ 3 ^ (r + 1) := Nat.one_le_pow _ _ (by decide)
      calc c ≤ 1 * (c + 768) := by omega
        _ ≤ _ := Nat.mul_le_mul_right _ this
    · refine Nat.le_trans (ih _) ?_
      rw [Nat.pow_succ, Nat.mul_assoc]
      refine Nat.mul_le_mul_left _ ?_
      omega

theorem nextcap_le (need cap : Nat) (h : cap < need) : Builtin.nextslicecap need cap ≤ 81 * (need + 768) := by
  unfold Builtin.nextslicecap
  split
  · omega
  · split
    · omega
    · refine Nat.le_trans (growBy_le _ _ _) ?_
      have : 3 ^ 4 = 81 := rfl
      rw [this]
      refine Nat.mul_le_mul_left _ ?_
      omega

/-- The cells of what is appended: from a slice that is empty, or out of a block. -/
def SrcV (Γ : List Ch) (y : Value) (m : Nat) (ys : List Value) (c : Nat) : Prop :=
  (∃ a k, y = .slice a 0 k ∧ ys = [] ∧ c = 0) ∨ ∃ bl off k p l T fz, y = .slice (some ⟨bl, off, none⟩) c k ∧ Ch.pt bl p (.cells ⟨l⟩ T fz) ∈ Γ ∧ SliceL l off (c * m) ys

theorem wpE_firstCells {P : Program} {Γ : List Ch} {y : Value} {m c : Nat} {ys : List Value} {h : LH} (sv : SrcV Γ y m ys c) (st : Star Γ h) {Q : Array Value → LH → Prop} (q : Q ⟨ys⟩ h) : wpE P (Builtin.firstCells m c y) Q h := by
  rcases sv with ⟨a, k, rfl, rfl, rfl⟩ | ⟨bl, off, k, p, l, T, fz, rfl, mem, sl⟩
  · cases a with
    | none => exact q
    | some a => simp only [Builtin.firstCells, Nat.zero_mul, loadCells, loadCellsFrom]; exact q
  · simp only [Builtin.firstCells]
    exact wpE_loadCells (Star.mem mem st) q

theorem SrcV.len {Γ : List Ch} {y : Value} {m c : Nat} {ys : List Value} (sv : SrcV Γ y m ys c) : ys.length = c * m ∧ ∃ a k, y = .slice a c k := by
  rcases sv with ⟨a, k, rfl, rfl, rfl⟩ | ⟨bl, off, k, p, l, T, fz, rfl, mem, sl⟩
  · exact ⟨by simp, a, k, rfl⟩
  · obtain ⟨_, _, _, _, h⟩ := sl.eq; exact ⟨h, _, k, rfl⟩

class ElemOf (P : Program) (el : TypeId) (m bytes : outParam Nat) : Prop where
  eq : ∃ i z, P.info? el = some i ∧ i.size = m ∧ i.bytes = bytes ∧ i.zero = some z ∧ z.cells.size = m

theorem zeroCells_len (z : Array Value) (k : Nat) : (Builtin.zeroCells z k).toList.length = k * z.size := by simp [Builtin.zeroCells]

section
variable {P : Program} {X : Tgt} {b : Base} {n : Nat} {dr : Bool} {ops : Array Oper} {lo : Nat} {ex : List Nat} {fl : Floats} {E : Env} {rem : List Oper} {k : List Item} {cs : List Frame} {Γ : List Ch}
variable {d : Nat} {T : TypeId} {pos : String} {af : Array Edge} {gd : Option (Nat × Bool)}

theorem wpE_append {t el m bytes : Nat} {t2 el2 : TypeId} {s y : Value} {xs ys : List Value} {len c : Nat} {tt : TypeId} [u : Under P t (.slice el)] [u2 : Under P t2 (.slice el2)] [eo : ElemOf P el m bytes] {h : LH}
    (hs : Star (.pr (SlV el m s xs len) :: Γ) h) (sv : SrcV Γ y m ys c) (hone : ∀ v ∈ ys, oneC v = true) (hbd : 81 * (len + c + 768) * bytes ≤ 2 ^ 48) (hbd2 : len + c < 2 ^ 62)
    {Q : Value → LH → Prop} (q : ∀ s' h', Star (.pr (SlV el m s' (xs ++ ys) (len + c)) :: Γ) h' → Q s' h') : wpE P (Builtin.append_ #[t, t2] tt #[s, y]) Q h := by
  obtain ⟨i, z, i1, i2, i3, i4, i5⟩ := eo.eq
  obtain ⟨hylen, ya, yk, hy⟩ := sv.len
  have hst : Star Γ h := by
    obtain ⟨h1, h2, j, _, st⟩ := hs
    exact st.more j.comm
  have hx : ∃ base cap, s = .slice base len cap := by
    obtain ⟨h1, h2, j, v, st⟩ := hs
    rcases v with ⟨a, _, c⟩ | ⟨bl, cap, slack, a, _⟩
    · exact ⟨none, 0, by rw [a, c]⟩
    · exact ⟨_, cap, a⟩
  obtain ⟨base, cap, hsv⟩ := hx
  unfold Builtin.append_
  simp only [wpE_bind', List.getElem?_toArray, List.getElem?_cons_zero, List.getElem?_cons_succ, wpE_underlying u.eq, wpE_underlying u2.eq, wpE_sizeOf i1, wpE_pure]
  subst hsv
  simp only [wpE_bind', wpE_sizeOf i1, wpE_pure, wpE_underlying u2.eq, Bool.false_eq_true, if_false]
  have hlen : wpE P (Builtin.lenOf y) (fun n h' => n = c ∧ h' = h) h := by rw [hy]; exact ⟨rfl, rfl⟩
  refine wpE_mono _ hlen ?_
  rintro _ _ ⟨rfl, rfl⟩
  rename_i c h
  have hfc : ∀ (Q : Array Value → LH → Prop), Q ⟨ys⟩ h → wpE P (Builtin.firstCells i.size c y) Q h := fun Q q => by rw [i2]; exact wpE_firstCells sv hst q
  by_cases hin : len + c ≤ cap
  · rw [if_pos hin]
    simp only [wpE_bind', Bool.not_false, if_true]
    refine hfc _ ?_
    rcases star_slv.1 hs with ⟨e1, e2, e3, st0⟩ | ⟨bl, cap', slack, e1, e2, e3, e4, st0⟩
    · cases e1
      have hc0 : c = 0 := by omega
      subst hc0; subst e2
      have hys : ys = [] := List.length_eq_zero_iff.1 (by simpa using hylen)
      subst hys
      simp only [wpE_pure]
      exact q _ _ (star_slv.2 (.inl ⟨rfl, rfl, rfl, st0⟩))
    · cases e1
      simp only [wpE_bind', wpE_pure, i2]
      have hb := Star.mem (List.mem_cons_self ..) st0
      have hsl : slack = slack.take (c * m) ++ slack.drop (c * m) := (List.take_append_drop _ _).symm
      have hcm : c * m ≤ (cap - len) * m := Nat.mul_le_mul_right _ (by omega)
      have hput : Star (.pt bl true (.cells ⟨(xs ++ ys) ++ slack.drop (c * m)⟩ el (0, 0)) :: Γ) (h.put bl (.cells ⟨(xs ++ ys) ++ slack.drop (c * m)⟩ el (0, 0))) := st0.put
      have hfin : ∀ h', Star (.pt bl true (.cells ⟨(xs ++ ys) ++ slack.drop (c * m)⟩ el (0, 0)) :: Γ) h' → Q (.slice (some ⟨bl, 0, none⟩) (len + c) cap) h' := fun h' st' =>
        q _ _ (star_slv.2 (.inr ⟨bl, cap, slack.drop (c * m), rfl, hin, by rw [List.length_append, e3, hylen, Nat.add_mul], by rw [List.length_drop, e4, ← Nat.sub_mul]; congr 1; omega, st'⟩))
      have e : (Addr.mk bl 0 none).add (len * m) = ⟨bl, len * m, none⟩ := by rw [add_eq]; simp
      rw [e]
      refine wpE_storeCells ys xs (slack.take (c * m)) (slack.drop (c * m)) 0 h hone ?_ (by simpa using e3) (by rw [List.length_take, e4, hylen]; exact Nat.min_eq_left hcm) (T := el) (fz := (0, 0)) (Nat.le_refl 0) ?_ ?_
      · rw [hb]; rw [List.append_assoc, ← hsl]
      · intro _; exact hfin _ hput
      · intro hnil
        refine hfin h ?_
        subst hnil
        have : c * m = 0 := by simpa using hylen.symm
        rw [this]
        simpa using st0
  · rw [if_neg hin]
    have h1 : ¬ (((len + c : Nat) : Int) > IntKind.i64.max ∧ (False ∨ i.bytes = 0)) := by
      rintro ⟨h1, _⟩
      have : IntKind.i64.max = 9223372036854775807 := by decide
      omega
    have h2 : ¬ (Builtin.nextslicecap (len + c) cap * i.bytes > 2 ^ 48) := by
      have := nextcap_le (len + c) cap (by omega)
      have := Nat.mul_le_mul_right i.bytes this
      rw [i3] at this ⊢
      have h3 : 81 * (len + c + 768) * bytes ≤ 2 ^ 48 := hbd
      omega
    simp only [wpE_bind', wpE_typeInfo i1, if_neg h1, if_neg h2, Bool.not_false, if_true]
    intro nc hnc
    have hnc' : len + c ≤ nc := by
      simp only [Question.forced, Bool.false_eq_true, if_false] at hnc
      obtain ⟨t, ht⟩ := hnc
      simp only [Question.cut] at ht
      omega
    have hask : ∀ (Q : Unit → LH → Prop), Q () h → wpE P (askRoom (nc * i.bytes)) Q h := by
      intro Q q
      unfold askRoom
      split
      · exact ⟨rfl, q⟩
      · exact q
    simp only [wpE_bind', wpE_pure']
    refine hask _ ?_
    have hold : ∀ (Q : Array Value → LH → Prop), Q ⟨xs⟩ h → wpE P (Builtin.firstCells i.size len (.slice base len cap)) Q h := by
      intro Q q0
      rcases star_slv.1 hs with ⟨e1, e2, e3, st0⟩ | ⟨bl, cap', slack, e1, e2, e3, e4, st0⟩
      · subst e2; subst e3; cases e1; exact q0
      · cases e1
        simp only [Builtin.firstCells, i2]
        haveI : SliceL (xs ++ slack) 0 (len * m) xs := ⟨[], slack, rfl, rfl, e3⟩
        exact wpE_loadCells (Star.mem (List.mem_cons_self ..) st0) q0
    refine hold _ ?_
    refine hfc _ ?_
    simp only [wpE_zeroValue i1 i4, newRow, newObj, wpE_bind', wpE, wpE_pure]
    intro bl hbl
    refine q _ _ (star_slv.2 (.inr ⟨bl, nc, (Builtin.zeroCells z.cells (nc - (len + c))).toList, rfl, hnc', ?_, ?_, ?_⟩))
    · rw [List.length_append, hylen, Nat.add_mul]
      congr 1
      obtain ⟨_, _, _, v, _⟩ := hs
      exact v.len
    · rw [zeroCells_len, i5]
    · have := hst.new (o := .cells ⟨xs ++ ys ++ (Builtin.zeroCells z.cells (nc - (len + c))).toList⟩ el (0, 0)) hbl
      have e : (Array.mk xs ++ Array.mk ys ++ Builtin.zeroCells z.cells (nc - (len + c))) = ⟨xs ++ ys ++ (Builtin.zeroCells z.cells (nc - (len + c))).toList⟩ := by
        apply Array.toList_inj.1; simp
      rw [e]
      exact this

/-! functions without a body -/

class ExtOf (P : Program) (f : FuncId) (e : outParam (Array Value → Sem Value)) : Prop where
  eq : ∃ fn, P.funcs[f]? = some fn ∧ fn.body.isNone = true ∧ (fn.name == "runtime.NumGoroutine") = false ∧ Extern.findNext fn = none ∧ Extern.find fn = some e

theorem does_ext {f : FuncId} {args : List Operand} {at' : Array TypeId} {vs : List Value} {ef : Array Value → Sem Value} {φ : Value → List Ch → Prop} {dst : Option Tmp} [x : ExtOf P f ef] (ha : vals E args = some vs)
    (hw : ∀ h, Star Γ h → wpE P (ef vs.toArray) (fun v h' => ∃ Γ', φ v Γ' ∧ Star Γ' h') h) : Does P ⟨dst, .call ⟨.value (.func f), ⟨args⟩, at'⟩, T, pos, af, gd⟩ E Γ φ :=
  does_of_wp rfl fun ρ h hρ st => by
    obtain ⟨fn, f1, f2, f3, f4, f5⟩ := x.eq
    have hargs : args.map ρ = vs := vals_map args vs (fun x hx => hρ x (by simp [Op.operands, Call.operands, hx])) ha
    have h0 : ρ (.func f) = .func (.func f) #[] #[] := hρ (.func f) (by simp [Op.operands, Call.operands]) _ rfl
    simp only [execOp, resolve, wpE_bind', h0, Deferred.ofValue, wpE_pure, invoke, callFunc, program, wpE, f1, f3, Bool.false_eq_true, if_false, f2, if_true, f4, f5, List.map_toArray, hargs, mark]
    simp only [List.append_toArray, List.nil_append, List.append_nil]
    refine ⟨rfl, wpE_mono _ (hw h st) ?_⟩
    rintro v h' ⟨Γ', hφ, st'⟩
    exact ⟨v, Γ', rfl, hφ, st'⟩

theorem rg_ext {f : FuncId} {args : List Operand} {at' : Array TypeId} {vs : List Value} {ef : Array Value → Sem Value} {φ : Value → List Ch → Prop} [x : ExtOf P f ef] (ha : vals E args = some vs)
    (hw : ∀ h, Star Γ h → wpE P (ef vs.toArray) (fun v h' => ∃ Γ', φ v Γ' ∧ Star Γ' h') h)
    (e : ∀ v Γ', φ v Γ' → (dr = false ∨ Reval ops ex lo fl Γ') ∧ Rg P X b n dr ops (lo + 1) ex fl ((d, v) :: E) rem k cs Γ')
    (hdn : d < n := by decide) (hex : NotYet ex lo := trivial) (hg : GuardOK ops ⟨some d, .call ⟨.value (.func f), ⟨args⟩, at'⟩, T, pos, af, gd⟩ E := by first | exact trivial | exact ⟨_, rfl, rfl⟩)
    (hl : dr = false ∨ chkLast ops lo ex = true := by first | exact .inl rfl | exact .inr (by decide +kernel)) :
    Rg P X b n dr ops lo ex fl E (⟨some d, .call ⟨.value (.func f), ⟨args⟩, at'⟩, T, pos, af, gd⟩ :: rem) k cs Γ :=
  rg_loud (fun d' e => by cases e; exact hdn) hex hg hl (does_ext ha hw) e

theorem rg_makeIface {t : TypeId} {x : Operand} {v : Value} {td : TypeDesc} [u : Under P t td] (hn : (match td with | .interface _ => False | _ => True)) (hx : Env.val E x = some v) (e : Rg P X b n dr ops (lo + 1) ex fl ((d, .iface t v) :: E) rem k cs Γ)
    (hdn : d < n := by decide) (hex : NotYet ex lo := trivial) (hg : GuardOK ops ⟨some d, .makeInterface t x, T, pos, af, gd⟩ E := by first | exact trivial | exact ⟨_, rfl, rfl⟩) :
    Rg P X b n dr ops lo ex fl E (⟨some d, .makeInterface t x, T, pos, af, gd⟩ :: rem) k cs Γ :=
  rg_pure rfl hdn hex rfl hg (fun _ ρ h hρ _ => by
    have h1 := hρ x (by simp [Op.operands]) _ hx
    simp only [execOp, wpE_bind', h1, Instr.makeInterface, wpE_underlying u.eq]
    cases td <;> first | exact hn.elim | exact ⟨rfl, rfl⟩) e

/-- A type assertion that holds, to a type that is no interface. -/
theorem rg_assertSame {t t1 : TypeId} {x : Operand} {v : Value} {td : TypeDesc} [u : Under P t td] (hn : (match td with | .interface _ => False | _ => True)) (hx : Env.val E x = some (.iface t v)) (e : Rg P X b n dr ops (lo + 1) ex fl ((d, v) :: E) rem k cs Γ)
    (hdn : d < n := by decide) (hex : NotYet ex lo := trivial) (hg : GuardOK ops ⟨some d, .typeAssert x t1 t false, T, pos, af, gd⟩ E := by first | exact trivial | exact ⟨_, rfl, rfl⟩) :
    Rg P X b n dr ops lo ex fl E (⟨some d, .typeAssert x t1 t false, T, pos, af, gd⟩ :: rem) k cs Γ :=
  rg_pure rfl hdn hex rfl hg (fun _ ρ h hρ _ => by
    have h1 := hρ x (by simp [Op.operands]) _ hx
    simp only [execOp, wpE_bind', h1, Instr.typeAssert, wpE_underlying u.eq]
    cases td <;> first | exact hn.elim | (simp; rfl)) e

/-! strings -/

theorem rg_indexStr {t : TypeId} {x y : Operand} {s : ByteArray} {kk : IntKind} {i : Int} {c : UInt8} [u : Under P t .string] (hx : Env.val E x = some (.string s)) (hy : Env.val E y = some (.int kk i)) (hi : 0 ≤ i) (hc : s[i.toNat]? = some c) (e : Rg P X b n dr ops (lo + 1) ex fl ((d, .int .u8 c.toNat) :: E) rem k cs Γ)
    (hdn : d < n := by decide) (hex : NotYet ex lo := trivial) (hg : GuardOK ops ⟨some d, .index t x y, T, pos, af, gd⟩ E := by first | exact trivial | exact ⟨_, rfl, rfl⟩) :
    Rg P X b n dr ops lo ex fl E (⟨some d, .index t x y, T, pos, af, gd⟩ :: rem) k cs Γ :=
  rg_pure rfl hdn hex rfl hg (fun _ ρ h hρ _ => by
    have h1 := hρ x (by simp [Op.operands]) _ hx
    have h2 := hρ y (by simp [Op.operands]) _ hy
    simp only [execOp, wpE_bind', h1, h2, Instr.index, asIntOf, wpE_pure, wpE_underlying u.eq, hi, if_true, hc, nxv, and_self]) e

theorem rg_sliceStr {t : TypeId} {x y z : Operand} {s : ByteArray} {k1 k2 : IntKind} {i j : Int} [u : Under P t .string] (hx : Env.val E x = some (.string s)) (hy : Env.val E y = some (.int k1 i)) (hz : Env.val E z = some (.int k2 j)) (hi : 0 ≤ i ∧ i ≤ j ∧ j ≤ s.size) (e : Rg P X b n dr ops (lo + 1) ex fl ((d, .string (s.extract i.toNat j.toNat)) :: E) rem k cs Γ)
    (hdn : d < n := by decide) (hex : NotYet ex lo := trivial) (hg : GuardOK ops ⟨some d, .slice t x (some y) (some z) none, T, pos, af, gd⟩ E := by first | exact trivial | exact ⟨_, rfl, rfl⟩) :
    Rg P X b n dr ops lo ex fl E (⟨some d, .slice t x (some y) (some z) none, T, pos, af, gd⟩ :: rem) k cs Γ :=
  rg_pure rfl hdn hex rfl hg (fun _ ρ h hρ _ => by
    have h1 := hρ x (by simp [Op.operands]) _ hx
    have h2 := hρ y (by simp [Op.operands]) _ hy
    have h3 := hρ z (by simp [Op.operands]) _ hz
    have a1 : 0 ≤ j := by omega
    have a2 : i ≤ (j.toNat : Int) := by omega
    simp only [execOp, wpE_bind', h1, h2, h3, Instr.sliceAt, Option.map_some, Option.map_none, wpE_underlying u.eq, Instr.slice, Instr.sliceBounds, Instr.sliceBound, asIntOf, wpE_pure, hi.1, a1, hi.2.2, a2, and_self, if_true, Option.isSome_none, Bool.false_eq_true, if_false, nxv]) e

theorem rg_append {t el m bytes : Nat} {t2 el2 : TypeId} {x y : Operand} {s yv : Value} {xs ys : List Value} {len c : Nat} [u : Under P t (.slice el)] [u2 : Under P t2 (.slice el2)] [eo : ElemOf P el m bytes] (hx : Env.val E x = some s) (hy : Env.val E y = some yv)
    (sv : SrcV Γ yv m ys c) (hone : ∀ v ∈ ys, oneC v = true) (hbd : 81 * (len + c + 768) * bytes ≤ 2 ^ 48) (hbd2 : len + c < 2 ^ 62) (hr : ∀ s', dr = false ∨ Reval ops ex lo fl (.pr (SlV el m s' (xs ++ ys) (len + c)) :: Γ))
    (e : ∀ s', oneC s' = true → Rg P X b n dr ops (lo + 1) ex fl ((d, s') :: E) rem k cs (.pr (SlV el m s' (xs ++ ys) (len + c)) :: Γ))
    (hdn : d < n := by decide) (hex : NotYet ex lo := trivial) (hg : GuardOK ops ⟨some d, .call ⟨.builtin .append, ⟨[x, y]⟩, ⟨[t, t2]⟩⟩, T, pos, af, gd⟩ E := by first | exact trivial | exact ⟨_, rfl, rfl⟩)
    (hc : dr = false ∨ chkLast ops lo ex = true := by first | exact .inl rfl | exact .inr (by decide +kernel)) :
    Rg P X b n dr ops lo ex fl E (⟨some d, .call ⟨.builtin .append, ⟨[x, y]⟩, ⟨[t, t2]⟩⟩, T, pos, af, gd⟩ :: rem) k cs (.pr (SlV el m s xs len) :: Γ) := by
  refine rg_loud (φ := fun v Γ' => oneC v = true ∧ Γ' = .pr (SlV el m v (xs ++ ys) (len + c)) :: Γ) (fun d e => by cases e; exact hdn) hex hg hc ?_ ?_
  · refine does_of_wp rfl fun ρ h hρ st => ?_
    have h1 := hρ x (by simp [Op.operands, Call.operands]) _ hx
    have h2 := hρ y (by simp [Op.operands, Call.operands]) _ hy
    refine wpE_builtin rfl ?_
    simp only [List.map_toArray, List.map_cons, List.map_nil, h1, h2, builtin, wpE_bind', wpE_pure]
    exact wpE_append st sv hone hbd hbd2 fun s' h' st' => ⟨s', _, rfl, ⟨by obtain ⟨_, _, _, v, _⟩ := st'; exact v.one, rfl⟩, st'⟩
  · rintro s' Γ' ⟨h1, rfl⟩
    exact ⟨hr s', e s' h1⟩

/-- 'make([]T, len, cap)'. -/
theorem rg_makeSlice {t el m bytes : Nat} {x y : Operand} {k1 k2 : IntKind} {len : Nat} {z : Value} [u : Under P t (.slice el)] [eo : ElemOf P el m bytes] [zz : ZeroOf P el z] (hx : Env.val E x = some (.int k1 len)) (hy : Env.val E y = some (.int k2 len)) (hm : z.cells.toList = [z]) (hm1 : m = 1) (hbd : bytes * len ≤ 2 ^ 48) (hbd2 : len < 2 ^ 62)
    (hr : ∀ bl, dr = false ∨ Reval ops ex lo fl (.pt bl true (.cells ⟨List.replicate len z⟩ el (0, 0)) :: Γ))
    (e : ∀ bl, Rg P X b n dr ops (lo + 1) ex fl ((d, .slice (some ⟨bl, 0, none⟩) len len) :: E) rem k cs (.pt bl true (.cells ⟨List.replicate len z⟩ el (0, 0)) :: Γ))
    (hdn : d < n := by decide) (hex : NotYet ex lo := trivial) (hg : GuardOK ops ⟨some d, .makeSlice t x y, T, pos, af, gd⟩ E := by first | exact trivial | exact ⟨_, rfl, rfl⟩)
    (hc : dr = false ∨ chkLast ops lo ex = true := by first | exact .inl rfl | exact .inr (by decide +kernel)) :
    Rg P X b n dr ops lo ex fl E (⟨some d, .makeSlice t x y, T, pos, af, gd⟩ :: rem) k cs Γ := by
  refine rg_loud (φ := fun v Γ' => ∃ bl, v = .slice (some ⟨bl, 0, none⟩) len len ∧ Γ' = .pt bl true (.cells ⟨List.replicate len z⟩ el (0, 0)) :: Γ) (fun d e => by cases e; exact hdn) hex hg hc ?_ ?_
  · refine does_of_wp rfl fun ρ h hρ st => ?_
    have h1 := hρ x (by simp [Op.operands]) _ hx
    have h2 := hρ y (by simp [Op.operands]) _ hy
    obtain ⟨i, z', i1, i2, i3, i4, i5⟩ := eo.eq
    obtain ⟨i', j1, j2⟩ := zz.eq
    rw [i1] at j1; cases j1; rw [i4] at j2; cases j2
    have hw : IntKind.i64.wrap (len : Int) = len := by
      have h1 : (len : Int) % 2 ^ 64 = len := by omega
      simp only [IntKind.wrap, IntKind.bits, IntKind.signed, h1, Bool.true_and, decide_eq_true_eq]; rw [if_neg (by omega)]
    have hz1 : z.cells = #[z] := by apply Array.toList_inj.1; simpa using hm
    simp only [execOp, wpE_bind', h1, h2, Instr.makeSlice, wpE_underlying u.eq, asInt, asIntOf, wpE_pure, wpE_typeInfo i1, hw, Int.toNat_natCast]
    rw [if_neg]
    · have hask : ∀ (Q : Unit → LH → Prop), Q () h → wpE P (askRoom (len * i.bytes)) Q h := by
        intro Q q
        unfold askRoom
        split
        · exact ⟨rfl, q⟩
        · exact q
      simp only [wpE_bind']
      refine hask _ ?_
      simp only [wpE_bind', wpE_sizeOf i1, i2, hm1, Nat.mul_one]
      have fin : ∀ (zc : Array Value), (len = 0 ∨ zc = #[z]) → wpE P (newRow el ((Array.range len).map (fun x => zc[x % zc.size]!))) (fun a h' => wpE P (pure (Value.slice (some a) len len)) (fun a h' => wpE P (pure (Next.value a)) (fun nx h' => ∃ v Γ', nxv nx = some v ∧ (∃ bl, v = .slice (some ⟨bl, 0, none⟩) len len ∧ Γ' = .pt bl true (.cells ⟨List.replicate len z⟩ el (0, 0)) :: Γ) ∧ Star Γ' h') h') h') h := by
        intro zc hzc
        simp only [newRow, newObj, wpE_bind', wpE, wpE_pure]
        intro bl hbl
        refine ⟨_, _, rfl, ⟨bl, rfl, rfl⟩, ?_⟩
        have : (Array.map (fun x => zc[x % zc.size]!) (Array.range len)) = ⟨List.replicate len z⟩ := by
          apply Array.ext
          · simp
          · intro j hj1 hj2
            rcases hzc with h0 | h0
            · subst h0; simp at hj1
            · subst h0; simp [Nat.mod_one]
        rw [this]
        exact st.new hbl
      by_cases h0 : len = 0
      · rw [if_pos h0]; simp only [wpE_bind', wpE_pure]; exact fin #[] (.inl h0)
      · rw [if_neg h0]; simp only [wpE_bind', wpE_zeroValue i1 i4, wpE_pure, hz1]; exact fin #[z] (.inr rfl)
    · have hb : (i.bytes : Int) * len ≤ 2 ^ 48 := by rw [i3]; exact_mod_cast hbd
      simp only [Bool.or_eq_true, decide_eq_true_eq, not_or]
      omega
  · rintro v Γ' ⟨bl, rfl, rfl⟩
    exact ⟨hr bl, e bl⟩

end

end Go.Lx
