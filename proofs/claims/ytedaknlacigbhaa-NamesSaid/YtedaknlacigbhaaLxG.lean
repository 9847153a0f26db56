/-
  THE LOGIC, SEVENTH PART: struct and slice literals, appends, slices, equality, small library calls.
-/
import Derived.Test.YtedaknlacigbhaaLxF
namespace Go.Lx
open Go

class LenL (l : List Value) (m : outParam Nat) : Prop where
  eq : l.length = m
instance len_nil : LenL [] 0 := ⟨rfl⟩
instance len_cons {v : Value} {l : List Value} {m : Nat} [e : LenL l m] : LenL (v :: l) (m + 1) := ⟨by simp [e.eq]⟩

class FieldSz (P : Program) (t f : Nat) (sz : outParam Nat) : Prop where
  eq : ∃ fs fd i, P.underlying t = some (.struct fs) ∧ fs[f]? = some fd ∧ P.info? fd.type = some i ∧ i.size = sz

theorem foldl_set (a : List Value) : ∀ (vs m c pre : List Value), m.length = vs.length →
    (vs.zipIdx pre.length).foldl (fun (cs : Array Value) (x : Value × Nat) => cs.setIfInBounds (a.length + x.2) x.1) ⟨a ++ pre ++ m ++ c⟩ = ⟨a ++ pre ++ vs ++ c⟩ := by
  intro vs
  induction vs with
  | nil => intro m c pre h; have := List.length_eq_zero_iff.1 h; subst this; rfl
  | cons v vs ih =>
    intro m c pre h
    cases m with
    | nil => cases h
    | cons u m =>
      rw [List.zipIdx_cons, List.foldl_cons]
      have e : (Array.mk (a ++ pre ++ u :: m ++ c)).setIfInBounds (a.length + pre.length) v = ⟨a ++ (pre ++ [v]) ++ m ++ c⟩ := by
        have : a.length + pre.length = (a ++ pre).length := by simp
        rw [this]; simp
      rw [e]
      have := ih m c (pre ++ [v]) (by simpa using h)
      simpa using this

theorem fill_set {place : Nat → Option (Nat × Nat)} {i off : Nat} {v : Value} {l l' : List Value} {rest : List (Nat × Value)} [s : SetL l off v.cells.toList l'] (hp : place i = some (off, v.cells.toList.length)) :
    Instr.fill place ⟨l⟩ ((i, v) :: rest) = Instr.fill place ⟨l'⟩ rest := by
  obtain ⟨a, m, c, h1, h2, h3, h4⟩ := s.eq
  subst h1; subst h2; subst h4
  have h5 : v.cells.size = v.cells.toList.length := by simp
  have h6 : ¬ (v.cells.size ≠ v.cells.toList.length ∨ a.length + v.cells.size > (Array.mk (a ++ m ++ c)).size) := by
    rw [h5]; simp; omega
  rw [Instr.fill, hp]
  have h7 : (decide (v.cells.size ≠ v.cells.toList.length) || decide (a.length + v.cells.size > (Array.mk (a ++ m ++ c)).size)) = false := by
    simp only [Bool.or_eq_false_iff, decide_eq_false_iff_not]; exact ⟨fun h => h6 (.inl h), fun h => h6 (.inr h)⟩
  simp only [h7, Bool.false_eq_true, if_false]
  have := foldl_set a v.cells.toList m c [] h3
  simp only [List.append_nil, List.length_nil] at this
  have hz : v.cells.zipIdx.toList = v.cells.toList.zipIdx 0 := by simp
  rw [← Array.foldl_toList, hz, this]

class Fill (P : Program) (t : TypeId) (z : List Value) (pv : List (Nat × Value)) (out : outParam (List Value)) : Prop where
  eq : ∀ fs, P.underlying t = some (.struct fs) → Instr.fill (fun i => (fs[i]?).bind fun f => (P.info? f.type).map fun x => (f.offset, x.size)) ⟨z⟩ pv = some ⟨out⟩
instance fill_nil {P : Program} {t : TypeId} {z : List Value} : Fill P t z [] z := ⟨fun _ _ => rfl⟩
instance fill_cons {P : Program} {t i off sz : Nat} {v : Value} {z z' c out : List Value} {pv : List (Nat × Value)} [cl : CellsL v c] [f : FieldAt P t i off] [fz : FieldSz P t i sz] [ln : LenL c sz] [s : SetL z off c z'] [r : Fill P t z' pv out] :
    Fill P t z ((i, v) :: pv) out := ⟨fun fs hfs => by
  obtain ⟨fs1, fd1, i1, a1, a2, a3, a4, a5⟩ := f.eq
  obtain ⟨fs2, fd2, i2, b1, b2, b3, b4⟩ := fz.eq
  rw [hfs] at a1 b1; cases a1; cases b1
  rw [a2] at b2; cases b2
  rw [a4] at b3; cases b3
  haveI : SetL z off v.cells.toList z' := cl.eq.symm ▸ s
  rw [fill_set (off := off) (l' := z')]
  · exact r.eq fs hfs
  · rw [cl.eq, ln.eq]; simp [a2, a4, a3, b4]⟩

def partsV (E : Env) : List (Nat × Operand) → Option (List (Nat × Value))
  | [] => some []
  | (i, x) :: l => match Env.val E x, partsV E l with
    | some v, some vs => some ((i, v) :: vs)
    | _, _ => none

theorem partsV_map {E : Env} {ρ : Operand → Value} : ∀ (l : List (Nat × Operand)) (vs : List (Nat × Value)), (∀ x ∈ l.map (·.2), ∀ u, Env.val E x = some u → ρ x = u) → partsV E l = some vs → l.map (fun (i, x) => (i, ρ x)) = vs := by
  intro l
  induction l with
  | nil => intro vs _ e; cases e; rfl
  | cons x l ih =>
    obtain ⟨i, x⟩ := x
    intro vs h e
    simp only [partsV] at e
    split at e
    · rename_i v vs' e1 e2
      cases e
      rw [List.map_cons, ih vs' (fun y hy => h y (by simp at hy ⊢; exact .inr hy)) e2]
      simp only [h x (by simp) v e1]
    · cases e

/-! equality of structs -/

def EqF (P : Program) (d : Nat) (xs ys : Array Value) (f : Field) (r : Bool) : Prop :=
  f.name ≠ "_" ∧ ∀ (h : LH) (Q : Bool → LH → Prop), Q r h → wpE P (part f.type xs f.offset) (fun a h1 => wpE P (part f.type ys f.offset) (fun b h2 => wpE P (Op.equalIn d f.type a b) Q h2) h1) h

def EqFs (P : Program) (d : Nat) (xs ys : Array Value) : List Field → List Bool → Prop
  | [], [] => True
  | f :: fs, r :: rs => EqF P d xs ys f r ∧ EqFs P d xs ys fs rs
  | _, _ => False

theorem wpE_eqStruct {P : Program} {d : Nat} {t : TypeId} {xs ys : Array Value} {fs : List Field} {rs : List Bool} (hu : P.underlying t = some (.struct ⟨fs⟩)) (hs : P.stoodInHeld t = false) (hf : EqFs P d xs ys fs rs) {h : LH} {Q : Bool → LH → Prop} (q : Q (rs.all id) h) :
    wpE P (Op.equalIn (d + 1) t (.agg xs) (.agg ys)) Q h := by
  rw [Op.equalIn, wpE_bind', wpE_underlying hu]
  simp only [wpE_bind', program, wpE, hs, Bool.false_eq_true, if_false]
  rw [List.forIn_toArray]
  clear hu
  induction fs generalizing rs with
  | nil =>
    cases rs with
    | nil => simpa using q
    | cons r rs => exact hf.elim
  | cons f fs ih =>
    cases rs with
    | nil => exact hf.elim
    | cons r rs =>
      obtain ⟨⟨hn, hr⟩, hf'⟩ := hf
      rw [List.forIn_cons]
      rw [if_pos hn]
      simp only [wpE_bind']
      refine hr h _ ?_
      cases r with
      | false => simpa using q
      | true =>
        simp only [Bool.not_true, Bool.false_eq_true, if_false, wpE_pure]
        have := ih hf' (by simpa using q)
        exact this

theorem wpE_part {P : Program} {t off : Nat} {cs : Array Value} {v : Value} [s : Scalar P t] (hv : cs[off]? = some v) {h : LH} {Q : Value → LH → Prop} (q : Q v h) : wpE P (part t cs off) Q h := by
  unfold part
  simp only [wpE_bind', wpE_isAgg_false, Bool.false_eq_true, if_false, hv]
  exact q

theorem wpE_eqInt {P : Program} {d t : Nat} {k kk : IntKind} {a c : Int} [u : Under P t (.int k)] {h : LH} {Q : Bool → LH → Prop} (q : Q (decide (a = c)) h) : wpE P (Op.equalIn (d + 1) t (.int kk a) (.int kk c)) Q h := by
  rw [Op.equalIn, wpE_bind', wpE_underlying u.eq]
  simp only [if_true, wpE_pure]
  exact q

theorem wpE_eqBool {P : Program} {d t : Nat} {a c : Bool} [u : Under P t .bool] {h : LH} {Q : Bool → LH → Prop} (q : Q (a == c) h) : wpE P (Op.equalIn (d + 1) t (.bool a) (.bool c)) Q h := by
  rw [Op.equalIn, wpE_bind', wpE_underlying u.eq]
  exact q

theorem eqF_int {P : Program} {d t off : Nat} {k kk : IntKind} {a c : Int} {xs ys : Array Value} {nm tg pk : String} {em : Bool} {bo : Nat} [s : Scalar P t] [u : Under P t (.int k)] (hn : nm ≠ "_") (hx : xs[off]? = some (.int kk a)) (hy : ys[off]? = some (.int kk c)) :
    EqF P (d + 1) xs ys ⟨nm, t, off, em, tg, pk, bo⟩ (decide (a = c)) := ⟨hn, fun h Q q => by
  exact wpE_part hx (wpE_part hy (wpE_eqInt q))⟩

theorem eqF_bool {P : Program} {d t off : Nat} {a c : Bool} {xs ys : Array Value} {nm tg pk : String} {em : Bool} {bo : Nat} [s : Scalar P t] [u : Under P t .bool] (hn : nm ≠ "_") (hx : xs[off]? = some (.bool a)) (hy : ys[off]? = some (.bool c)) :
    EqF P (d + 1) xs ys ⟨nm, t, off, em, tg, pk, bo⟩ (a == c) := ⟨hn, fun h Q q => by
  exact wpE_part hx (wpE_part hy (wpE_eqBool q))⟩

section
variable {P : Program} {X : Tgt} {b : Base} {n : Nat} {dr : Bool} {ops : Array Oper} {lo : Nat} {ex : List Nat} {fl : Floats} {E : Env} {rem : List Oper} {k : List Item} {cs : List Frame} {Γ : List Ch}
variable {d : Nat} {T : TypeId} {pos : String} {af : Array Edge} {gd : Option (Nat × Bool)}

theorem wpE_places {fs : List Field} {h : LH} {Q : List (Nat × Nat) → LH → Prop} (hs : ∀ f ∈ fs, ∃ i, P.info? f.type = some i)
    (q : Q (fs.map fun f => (f.offset, ((P.info? f.type).map (·.size)).getD 0)) h) : wpE P (fs.mapM (m := Sem) fun f => do pure (f.offset, ← sizeOf f.type)) Q h := by
  induction fs generalizing Q with
  | nil => exact q
  | cons f fs ih =>
    obtain ⟨i, hi⟩ := hs f (List.mem_cons_self ..)
    rw [List.mapM_cons]
    simp only [wpE_bind', wpE_sizeOf hi, wpE_pure]
    refine ih (Q := fun l h' => Q ((f.offset, i.size) :: l) h') (fun g hg => hs g (List.mem_cons_of_mem _ hg)) ?_
    simpa [hi] using q

class FieldsOK (P : Program) (t : TypeId) : Prop where
  eq : ∃ fs, P.underlying t = some (.struct fs) ∧ (fs.toList.all fun f => (P.info? f.type).isSome) = true

theorem rg_build {t : TypeId} {z out : List Value} {parts : List (Nat × Operand)} {pv : List (Nat × Value)} [zz : ZeroOf P t (.agg ⟨z⟩)] [fo : FieldsOK P t] (hp : partsV E parts = some pv) [fi : Fill P t z pv out]
    (e : Rg P X b n dr ops (lo + 1) ex fl ((d, .agg ⟨out⟩) :: E) rem k cs Γ)
    (hdn : d < n := by decide) (hex : NotYet ex lo := trivial) (hg : GuardOK ops ⟨some d, .build t ⟨parts⟩, T, pos, af, gd⟩ E := by first | exact trivial | exact ⟨_, rfl, rfl⟩) :
    Rg P X b n dr ops lo ex fl E (⟨some d, .build t ⟨parts⟩, T, pos, af, gd⟩ :: rem) k cs Γ :=
  rg_pure rfl hdn hex rfl hg (fun _ ρ h hρ _ => by
    have hpm := partsV_map parts pv (fun x hx => hρ x (by simpa [Op.operands] using hx)) hp
    obtain ⟨i, i1, i2⟩ := zz.eq
    obtain ⟨fs, f1, f2⟩ := fo.eq
    have f3 : ∀ f ∈ fs.toList, ∃ i, P.info? f.type = some i := fun f hf => Option.isSome_iff_exists.1 (List.all_eq_true.1 f2 f hf)
    simp only [execOp, wpE_bind', Instr.build, wpE_zeroValue i1 i2, wpE_underlying f1]
    rw [← Array.toArray_toList (xs := fs), List.mapM_toArray]
    simp only [map_eq_pure_bind, wpE_bind', wpE_pure]
    refine wpE_places f3 ?_
    have hpl : (fun (i : Nat) => ((fs.toList.map fun f => (f.offset, ((P.info? f.type).map (·.size)).getD 0)).toArray)[i]?) = fun i => (fs[i]?).bind fun f => (P.info? f.type).map fun x => (f.offset, x.size) := by
      funext i
      simp only [List.getElem?_toArray, List.getElem?_map, Array.getElem?_toList]
      cases hfi : fs[i]? with
      | none => rfl
      | some f =>
        obtain ⟨x, hx⟩ := f3 f (by simpa using Array.mem_of_getElem? hfi)
        simp [hx]
    have hfill := fi.eq fs f1
    have hparts : (Array.map (fun (x : Nat × Operand) => (x.1, ρ x.2)) ⟨parts⟩).toList = pv := by simpa using hpm
    have : Instr.fill (fun (i : Nat) => ((fs.toList.map fun f => (f.offset, ((P.info? f.type).map (·.size)).getD 0)).toArray)[i]?) (Value.agg ⟨z⟩).cells (Array.map (fun (x : Nat × Operand) => (x.1, ρ x.2)) ⟨parts⟩).toList = some ⟨out⟩ := by
      rw [hpl, hparts]; exact hfill
    simp only [this, wpE_pure, nxv, and_self]) e

/-! equality -/

theorem wpE_eqGuard_agg {op : BinOp} {t : TypeId} {x y : Operand} {a c : Array Value} {h : LH} {Q : Unit → LH → Prop} (hg : P.eqGuardType P.depth t = false) (q : Q () h) : wpE P (eqGuard op t x y (.agg a) (.agg c)) Q h := by
  unfold eqGuard
  cases op <;> first | exact q | (simp only [Bool.not_true, Bool.false_eq_true, if_false, wpE_bind', program, wpE, hg, Bool.not_false, if_true]; exact q)

theorem wpE_eqGuard_bool {op : BinOp} {t : TypeId} {x y : Operand} {a c : Bool} {h : LH} {Q : Unit → LH → Prop} (q : Q () h) : wpE P (eqGuard op t x y (.bool a) (.bool c)) Q h := by
  unfold eqGuard
  cases op <;> exact q
theorem wpE_eqGuard_pointer {op : BinOp} {t : TypeId} {x y : Operand} {a c : Option Addr} {h : LH} {Q : Unit → LH → Prop} (q : Q () h) : wpE P (eqGuard op t x y (.pointer a) (.pointer c)) Q h := by
  unfold eqGuard
  cases op <;> exact q
theorem wpE_eqGuard_map {op : BinOp} {t : TypeId} {x y : Operand} {a c : Option Nat} {h : LH} {Q : Unit → LH → Prop} (q : Q () h) : wpE P (eqGuard op t x y (.map a) (.map c)) Q h := by
  unfold eqGuard
  cases op <;> exact q
theorem wpE_eqGuard_chan {op : BinOp} {t : TypeId} {x y : Operand} {a c : Option Nat} {h : LH} {Q : Unit → LH → Prop} (q : Q () h) : wpE P (eqGuard op t x y (.chan a) (.chan c)) Q h := by
  unfold eqGuard
  cases op <;> exact q

theorem rg_eqBool {t t' : TypeId} {x y : Operand} {u v : Bool} [uu : Under P t .bool] (hx : Env.val E x = some (.bool u)) (hy : Env.val E y = some (.bool v))
    (e : Rg P X b n dr ops (lo + 1) ex fl ((d, .bool (u == v)) :: E) rem k cs Γ)
    (hdn : d < n := by decide) (hex : NotYet ex lo := trivial) (hg : GuardOK ops ⟨some d, .binOp .eql t x y t', T, pos, af, gd⟩ E := by first | exact trivial | exact ⟨_, rfl, rfl⟩) :
    Rg P X b n dr ops lo ex fl E (⟨some d, .binOp .eql t x y t', T, pos, af, gd⟩ :: rem) k cs Γ :=
  rg_pure rfl hdn hex rfl hg (fun _ ρ h hρ _ => by
    have h1 := hρ x (by simp [Op.operands]) _ hx
    have h2 := hρ y (by simp [Op.operands]) _ hy
    simp only [execOp, wpE_bind', h1, h2]
    refine wpE_eqGuard_bool ?_
    show wpE P (do pure (Value.bool (← Op.equalIn (9999 + 1) t (.bool u) (.bool v)))) _ h
    rw [wpE_bind']
    exact wpE_eqBool ⟨rfl, rfl⟩) e

theorem rg_eqPtrNil {t t' el : TypeId} {x y : Operand} {a : Option Addr} [uu : Under P t (.pointer el)] (hx : Env.val E x = some (.pointer a)) (hy : Env.val E y = some (.pointer none))
    (e : Rg P X b n dr ops (lo + 1) ex fl ((d, .bool a.isNone) :: E) rem k cs Γ)
    (hdn : d < n := by decide) (hex : NotYet ex lo := trivial) (hg : GuardOK ops ⟨some d, .binOp .eql t x y t', T, pos, af, gd⟩ E := by first | exact trivial | exact ⟨_, rfl, rfl⟩) :
    Rg P X b n dr ops lo ex fl E (⟨some d, .binOp .eql t x y t', T, pos, af, gd⟩ :: rem) k cs Γ :=
  rg_pure rfl hdn hex rfl hg (fun _ ρ h hρ _ => by
    have h1 := hρ x (by simp [Op.operands]) _ hx
    have h2 := hρ y (by simp [Op.operands]) _ hy
    simp only [execOp, wpE_bind', h1, h2]
    refine wpE_eqGuard_pointer ?_
    show wpE P (do pure (Value.bool (← Op.equalIn (9999 + 1) t (.pointer a) (.pointer none)))) _ h
    rw [wpE_bind', Op.equalIn, wpE_bind', wpE_underlying uu.eq]
    cases a <;> exact ⟨rfl, rfl⟩) e

theorem rg_eqMapNil {t t' K el : TypeId} {x y : Operand} {a : Option Nat} [uu : Under P t (.map K el)] (hx : Env.val E x = some (.map a)) (hy : Env.val E y = some (.map none))
    (e : Rg P X b n dr ops (lo + 1) ex fl ((d, .bool a.isNone) :: E) rem k cs Γ)
    (hdn : d < n := by decide) (hex : NotYet ex lo := trivial) (hg : GuardOK ops ⟨some d, .binOp .eql t x y t', T, pos, af, gd⟩ E := by first | exact trivial | exact ⟨_, rfl, rfl⟩) :
    Rg P X b n dr ops lo ex fl E (⟨some d, .binOp .eql t x y t', T, pos, af, gd⟩ :: rem) k cs Γ :=
  rg_pure rfl hdn hex rfl hg (fun _ ρ h hρ _ => by
    have h1 := hρ x (by simp [Op.operands]) _ hx
    have h2 := hρ y (by simp [Op.operands]) _ hy
    simp only [execOp, wpE_bind', h1, h2]
    refine wpE_eqGuard_map ?_
    show wpE P (do pure (Value.bool (← Op.equalIn (9999 + 1) t (.map a) (.map none)))) _ h
    rw [wpE_bind', Op.equalIn, wpE_bind', wpE_underlying uu.eq]
    cases a <;> exact ⟨rfl, rfl⟩) e

theorem rg_neqChanNil {t t' el : TypeId} {x y : Operand} {a : Option Nat} {dir : ChanDir} [uu : Under P t (.chan dir el)] (hx : Env.val E x = some (.chan a)) (hy : Env.val E y = some (.chan none))
    (e : Rg P X b n dr ops (lo + 1) ex fl ((d, .bool (!a.isNone)) :: E) rem k cs Γ)
    (hdn : d < n := by decide) (hex : NotYet ex lo := trivial) (hg : GuardOK ops ⟨some d, .binOp .neq t x y t', T, pos, af, gd⟩ E := by first | exact trivial | exact ⟨_, rfl, rfl⟩) :
    Rg P X b n dr ops lo ex fl E (⟨some d, .binOp .neq t x y t', T, pos, af, gd⟩ :: rem) k cs Γ :=
  rg_pure rfl hdn hex rfl hg (fun _ ρ h hρ _ => by
    have h1 := hρ x (by simp [Op.operands]) _ hx
    have h2 := hρ y (by simp [Op.operands]) _ hy
    simp only [execOp, wpE_bind', h1, h2]
    refine wpE_eqGuard_chan ?_
    show wpE P (do pure (Value.bool (!(← Op.equalIn (9999 + 1) t (.chan a) (.chan none))))) _ h
    rw [wpE_bind', Op.equalIn, wpE_bind', wpE_underlying uu.eq]
    cases a <;> exact ⟨rfl, rfl⟩) e

/-- A struct against a struct. -/
theorem rg_eqAgg {t t' : TypeId} {x y : Operand} {us vs : List Value} {fs : List Field} {rs : List Bool} (hx : Env.val E x = some (.agg ⟨us⟩)) (hy : Env.val E y = some (.agg ⟨vs⟩)) (hu : P.underlying t = some (.struct ⟨fs⟩)) (hs : P.stoodInHeld t = false) (hge : P.eqGuardType P.depth t = false)
    (hf : EqFs P 9999 ⟨us⟩ ⟨vs⟩ fs rs) (e : Rg P X b n dr ops (lo + 1) ex fl ((d, .bool (rs.all id)) :: E) rem k cs Γ)
    (hdn : d < n := by decide) (hex : NotYet ex lo := trivial) (hg : GuardOK ops ⟨some d, .binOp .eql t x y t', T, pos, af, gd⟩ E := by first | exact trivial | exact ⟨_, rfl, rfl⟩) :
    Rg P X b n dr ops lo ex fl E (⟨some d, .binOp .eql t x y t', T, pos, af, gd⟩ :: rem) k cs Γ :=
  rg_pure rfl hdn hex rfl hg (fun _ ρ h hρ _ => by
    have h1 := hρ x (by simp [Op.operands]) _ hx
    have h2 := hρ y (by simp [Op.operands]) _ hy
    simp only [execOp, wpE_bind', h1, h2]
    refine wpE_eqGuard_agg hge ?_
    show wpE P (do pure (Value.bool (← Op.equalIn (9999 + 1) t (.agg ⟨us⟩) (.agg ⟨vs⟩)))) _ h
    rw [wpE_bind']
    exact wpE_eqStruct hu hs hf ⟨rfl, rfl⟩) e

/-! slices -/

/-- 's[lo:hi]' of a slice, in its bounds. -/
theorem rg_sliceHi {t el m : TypeId} {x y : Operand} {bl off len cap : Nat} {kk : IntKind} {i : Int} [u : Under P t (.slice el)] [c : CellsOf P el m] (hx : Env.val E x = some (.slice (some ⟨bl, off, none⟩) len cap)) (hy : Env.val E y = some (.int kk i)) (hi : 0 ≤ i ∧ i ≤ cap)
    (e : Rg P X b n dr ops (lo + 1) ex fl ((d, .slice (some ⟨bl, off, none⟩) i.toNat cap) :: E) rem k cs Γ)
    (hdn : d < n := by decide) (hex : NotYet ex lo := trivial) (hg : GuardOK ops ⟨some d, .slice t x none (some y) none, T, pos, af, gd⟩ E := by first | exact trivial | exact ⟨_, rfl, rfl⟩) :
    Rg P X b n dr ops lo ex fl E (⟨some d, .slice t x none (some y) none, T, pos, af, gd⟩ :: rem) k cs Γ :=
  rg_pure rfl hdn hex rfl hg (fun _ ρ h hρ _ => by
    have h1 := hρ x (by simp [Op.operands]) _ hx
    have h2 := hρ y (by simp [Op.operands]) _ hy
    obtain ⟨ci, c1, c2⟩ := c.size
    simp only [execOp, wpE_bind', h1, h2, Instr.sliceAt, Option.map_some, Option.map_none, wpE_underlying u.eq, Instr.slice, Instr.sliceBounds, Instr.sliceBound, asIntOf, wpE_pure, hi.1, hi.2, and_self, if_true, wpE_sizeOf c1, Nat.sub_zero, Nat.zero_mul]
    by_cases hc : cap = 0
    · simp [hc, nxv]
    · simp [hc, nxv, add_eq]) e

theorem rg_sliceLo {t el m : TypeId} {x y : Operand} {bl off len cap : Nat} {kk : IntKind} {i : Int} [u : Under P t (.slice el)] [c : CellsOf P el m] (hx : Env.val E x = some (.slice (some ⟨bl, off, none⟩) len cap)) (hy : Env.val E y = some (.int kk i)) (hi : 0 ≤ i ∧ i ≤ len)
    (e : Rg P X b n dr ops (lo + 1) ex fl ((d, .slice (some ⟨bl, (if cap = i.toNat then off else off + i.toNat * m), none⟩) (len - i.toNat) (cap - i.toNat)) :: E) rem k cs Γ)
    (hdn : d < n := by decide) (hex : NotYet ex lo := trivial) (hg : GuardOK ops ⟨some d, .slice t x (some y) none none, T, pos, af, gd⟩ E := by first | exact trivial | exact ⟨_, rfl, rfl⟩) :
    Rg P X b n dr ops lo ex fl E (⟨some d, .slice t x (some y) none none, T, pos, af, gd⟩ :: rem) k cs Γ :=
  rg_pure rfl hdn hex rfl hg (fun _ ρ h hρ _ => by
    have h1 := hρ x (by simp [Op.operands]) _ hx
    have h2 := hρ y (by simp [Op.operands]) _ hy
    obtain ⟨ci, c1, c2⟩ := c.size
    simp only [execOp, wpE_bind', h1, h2, Instr.sliceAt, Option.map_some, Option.map_none, wpE_underlying u.eq, Instr.slice, Instr.sliceBounds, Instr.sliceBound, asIntOf, wpE_pure, hi.1, hi.2, and_self, if_true, wpE_sizeOf c1]
    by_cases hc : cap = i.toNat
    · simp [hc, nxv]
    · simp [hc, nxv, add_eq, c2]) e

end

end Go.Lx
