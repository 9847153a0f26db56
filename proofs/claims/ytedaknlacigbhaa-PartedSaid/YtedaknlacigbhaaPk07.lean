/-
  Lemmas towards the law, proved without conditions of their own: THE LOGIC, TWELFTH PART: functions whose results lie in cells; THE LOGIC, THIRTEENTH PART: division, shifts, bits; arrays of unsigned numbers by their list; THE LOGIC, FOURTEENTH PART: function values; ranging over a function.
-/
import Derived.Test.YtedaknlacigbhaaPk06
import Derived.Sort.AssemblyPlain
namespace Go.Lx
open Go

section
variable {P : Program}

/-- What a function's results are: in slots, or in cells. -/
inductive ResC (P : Program) (E : Env) (Γ : List Ch) : List ResultVar → List Value → Prop
  | nil : ResC P E Γ [] []
  | tmp {t : Nat} {l : List ResultVar} {v : Value} {vs : List Value} (h : Env.get E t = some v) (r : ResC P E Γ l vs) : ResC P E Γ (.tmp t :: l) (v :: vs)
  | agg {a t bl m : Nat} {l : List ResultVar} {vs : List Value} {p : Bool} {cl ul : List Value} {T : TypeId} {fz : Nat × Nat} [ag : AggT P t m] (h : Env.get E a = some (.pointer (some ⟨bl, 0, none⟩))) (hm : Ch.pt bl p (.cells ⟨cl⟩ T fz) ∈ Γ) (hs : SliceL cl 0 m ul) (r : ResC P E Γ l vs) : ResC P E Γ (.cell a t :: l) (.agg ⟨ul⟩ :: vs)
  | one {a t bl : Nat} {l : List ResultVar} {vs : List Value} {p : Bool} {cl : List Value} {v : Value} {T : TypeId} {fz : Nat × Nat} [sc : Scalar P t] (h : Env.get E a = some (.pointer (some ⟨bl, 0, none⟩))) (hm : Ch.pt bl p (.cells ⟨cl⟩ T fz) ∈ Γ) (hv : cl[0]? = some v) (r : ResC P E Γ l vs) : ResC P E Γ (.cell a t :: l) (v :: vs)

theorem wpE_mapM_res {tmps : Array Value} {n : Nat} {E : Env} {Γ : List Ch} (t : Tms n E tmps) {h : LH} (st : Star Γ h) {l : List ResultVar} {vs : List Value} (r : ResC P E Γ l vs) : ∀ {Q : List Value → LH → Prop}, Q vs h →
    wpE P (l.mapM (m := Sem) fun | .tmp t => pure (tmps.getD t undef) | .cell a t => do loadVar t (← asAddr (tmps.getD a undef))) Q h := by
  induction r with
  | nil => intro Q q; exact q
  | @tmp s l v vs hg r ih =>
    intro Q q
    rw [List.mapM_cons]
    have hv := t.get _ _ hg
    have hv' : tmps.getD s undef = v := by rw [Array.getD_eq_getD_getElem?, hv]; rfl
    simp only [wpE_bind', wpE_pure, hv']
    exact ih q
  | @agg a t' bl m l vs p cl ul T fz ag hg hm hs r ih =>
    intro Q q
    rw [List.mapM_cons]
    have hv := t.get _ _ hg
    have hv' : tmps.getD a undef = .pointer (some ⟨bl, 0, none⟩) := by rw [Array.getD_eq_getD_getElem?, hv]; rfl
    obtain ⟨i, i1, i2⟩ := ag.size
    simp only [wpE_bind', hv', asAddr, wpE_pure, loadVar, wpE_isAgg_true, wpE_sizeOf i1, i2, if_true]
    haveI := hs
    refine wpE_loadCells (Star.mem hm st) ?_
    exact ih q
  | @one a t' bl l vs p cl v T fz sc hg hm hv0 r ih =>
    intro Q q
    rw [List.mapM_cons]
    have hv := t.get _ _ hg
    have hv' : tmps.getD a undef = .pointer (some ⟨bl, 0, none⟩) := by rw [Array.getD_eq_getD_getElem?, hv]; rfl
    simp only [wpE_bind', hv', asAddr, wpE_pure, loadVar, wpE_isAgg_false, Bool.false_eq_true, if_false]
    have hb := Star.mem hm st
    exact wpE_load (a := ⟨bl, 0, none⟩) hb rfl (by simpa using hv0) (ih q)

theorem results_cell {fn : Func} {tmps : Array Value} {n : Nat} {E : Env} {Γ : List Ch} (t : Tms n E tmps) {vs : List Value} (e : ResC P E Γ fn.results.toList vs) (h : LH) (st : Star Γ h) :
    wpE P (results fn tmps) (fun v' h' => v' = packV vs ∧ h' = h) h := by
  unfold results
  rw [← Array.toArray_toList (xs := fn.results), List.mapM_toArray]
  simp only [wpE_bind', map_eq_pure_bind, bind_assoc, pure_bind, wpE_pure]
  refine wpE_mapM_res t st e ⟨?_, rfl⟩
  match vs with
  | [] => rfl
  | [v] => rfl
  | v :: u :: vs => rfl

end

section
variable {P : Program} {X : Tgt} {b : Base} {n : Nat} {E : Env} {k : List Item} {cs : List Frame} {Γ Γ' : List Ch}

/-- 'return' where results lie in cells: what the cells are stays said. -/
theorem ex_retC {φ : Value → List Ch → Prop} {fn : Func} {vs : List Value} (ret : ∀ fr v Γ' h', φ v Γ' → Retd P b.fn v Γ' fr → Star Γ' h' → Ev P X (gor fr cs) h') (hf : P.funcs[b.fn]? = some fn)
    (en : Ent Γ Γ') (hv : ResC P E Γ' fn.results.toList vs) (e : φ (packV vs) Γ') (hk : b.kind = .normal := by rfl) (hd : b.defers = [] := by rfl) (hr : b.ro = none := by rfl) : Ex P X b n E (.code .ret :: k) cs Γ :=
  Ex.ent en fun tmps h t s => by
    refine (ret { b.fr tmps (.code .ret :: k) with mode := .returning } _ _ h e ⟨rfl, rfl, hd, hk, fn, hf, fun h' s' => results_cell t hv h' s'⟩ s).silent (fun w => ?_)
    simp [stepG, stepG.exec, gor, Base.fr, hr]

end
end Go.Lx

namespace Go.Lx
open Go

theorem wI (x : Int) : IntKind.wrap .i64 x = (x + 9223372036854775808) % 18446744073709551616 - 9223372036854775808 := by
  unfold IntKind.wrap
  show (if (true && decide (x % 18446744073709551616 ≥ 9223372036854775808)) = true then x % 18446744073709551616 - 18446744073709551616 else x % 18446744073709551616) = _
  by_cases h : x % 18446744073709551616 ≥ 9223372036854775808
  · rw [if_pos (by simp [h])]; omega
  · rw [if_neg (by simp [h])]; omega

theorem wIn {x : Int} (h1 : -9223372036854775808 ≤ x) (h2 : x < 9223372036854775808) : IntKind.wrap .i64 x = x := by rw [wI]; omega

theorem td2 (m : Nat) : ((m : Int).tdiv 2) = ((m / 2 : Nat) : Int) := by rw [Int.tdiv_eq_ediv_of_nonneg (by omega)]; omega
theorem td4 (m : Nat) : ((m : Int).tdiv 4) = ((m / 4 : Nat) : Int) := by rw [Int.tdiv_eq_ediv_of_nonneg (by omega)]; omega
theorem td8 (m : Nat) : ((m : Int).tdiv 8) = ((m / 8 : Nat) : Int) := by rw [Int.tdiv_eq_ediv_of_nonneg (by omega)]; omega

theorem vi {x y : Int} (h : x = y) : some (Value.int .i64 x) = some (Value.int .i64 y) := by rw [h]

theorem wU (x : Int) : IntKind.wrap .u64 x = x % 18446744073709551616 := by
  simp only [IntKind.wrap, IntKind.bits, IntKind.signed, Bool.false_and, Bool.false_eq_true, if_false]; rfl

section
variable {P : Program} {X : Tgt} {b : Base} {n : Nat} {dr : Bool} {ops : Array Oper} {lo : Nat} {ex : List Nat} {fl : Floats} {E : Env} {rem : List Oper} {k : List Item} {cs : List Frame} {Γ : List Ch}
variable {d : Nat} {T : TypeId} {pos : String} {af : Array Edge} {gd : Option (Nat × Bool)}

/-- Ways that meet again, in a state that stands for i. -/
theorem joinC {ι : Type} (F : ι → Prop) (E' : ι → Env) (Γ' : ι → List Ch) {G : Prop} (f : (∀ i, F i → Ex P X b n (E' i) k cs (Γ' i)) → G) (c : ∀ i, F i → Ex P X b n (E' i) k cs (Γ' i)) : G := f c

/-- An operator on two integers whose value is known. -/
theorem rg_binGen {op : BinOp} {t t' : TypeId} {x y : Operand} {k1 k2 : IntKind} {a c : Int} {v : Value} (hx : Env.val E x = some (.int k1 a)) (hy : Env.val E y = some (.int k2 c)) (hv : binOp op t (.int k1 a) (.int k2 c) = pure v)
    (e : Rg P X b n dr ops (lo + 1) ex fl ((d, v) :: E) rem k cs Γ)
    (hdn : d < n := by decide) (hex : NotYet ex lo := trivial) (hg : GuardOK ops ⟨some d, .binOp op t x y t', T, pos, af, gd⟩ E := by first | exact trivial | exact ⟨_, rfl, rfl⟩) :
    Rg P X b n dr ops lo ex fl E (⟨some d, .binOp op t x y t', T, pos, af, gd⟩ :: rem) k cs Γ :=
  rg_pure rfl hdn hex rfl hg (fun _ ρ h hρ _ => by
    have h1 := hρ x (by simp [Op.operands]) _ hx
    have h2 := hρ y (by simp [Op.operands]) _ hy
    simp only [execOp, wpE_bind', h1, h2, hv]
    refine wpE_eqGuard_int ?_
    show nxv (Next.value v) = some v ∧ h = h
    exact ⟨rfl, rfl⟩) e

theorem rg_quo {t t' : TypeId} {x y : Operand} {kk : IntKind} {a c : Int} (hx : Env.val E x = some (.int kk a)) (hy : Env.val E y = some (.int kk c)) (hc : c ≠ 0)
    (e : Rg P X b n dr ops (lo + 1) ex fl ((d, .int kk (kk.wrap (a.tdiv c))) :: E) rem k cs Γ)
    (hdn : d < n := by decide) (hex : NotYet ex lo := trivial) (hg : GuardOK ops ⟨some d, .binOp .quo t x y t', T, pos, af, gd⟩ E := by first | exact trivial | exact ⟨_, rfl, rfl⟩) :
    Rg P X b n dr ops lo ex fl E (⟨some d, .binOp .quo t x y t', T, pos, af, gd⟩ :: rem) k cs Γ :=
  rg_binGen hx hy (by simp [binOp, Op.intDiv, hc]) e hdn hex hg

theorem rg_rem {t t' : TypeId} {x y : Operand} {kk : IntKind} {a c : Int} (hx : Env.val E x = some (.int kk a)) (hy : Env.val E y = some (.int kk c)) (hc : c ≠ 0)
    (e : Rg P X b n dr ops (lo + 1) ex fl ((d, .int kk (a.tmod c)) :: E) rem k cs Γ)
    (hdn : d < n := by decide) (hex : NotYet ex lo := trivial) (hg : GuardOK ops ⟨some d, .binOp .rem t x y t', T, pos, af, gd⟩ E := by first | exact trivial | exact ⟨_, rfl, rfl⟩) :
    Rg P X b n dr ops lo ex fl E (⟨some d, .binOp .rem t x y t', T, pos, af, gd⟩ :: rem) k cs Γ :=
  rg_binGen hx hy (by simp [binOp, Op.intDiv, hc]) e hdn hex hg

theorem rg_shl {t t' : TypeId} {x y : Operand} {k1 k2 : IntKind} {a c : Int} (hx : Env.val E x = some (.int k1 a)) (hy : Env.val E y = some (.int k2 c)) (hc : 0 ≤ c)
    (e : Rg P X b n dr ops (lo + 1) ex fl ((d, .int k1 (k1.wrap (a * 2 ^ (min c.toNat k1.bits)))) :: E) rem k cs Γ)
    (hdn : d < n := by decide) (hex : NotYet ex lo := trivial) (hg : GuardOK ops ⟨some d, .binOp .shl t x y t', T, pos, af, gd⟩ E := by first | exact trivial | exact ⟨_, rfl, rfl⟩) :
    Rg P X b n dr ops lo ex fl E (⟨some d, .binOp .shl t x y t', T, pos, af, gd⟩ :: rem) k cs Γ :=
  rg_binGen hx hy (by simp only [binOp, Op.shift]; rw [if_neg (by omega)]) e hdn hex hg

theorem rg_shr {t t' : TypeId} {x y : Operand} {k1 k2 : IntKind} {a c : Int} (hx : Env.val E x = some (.int k1 a)) (hy : Env.val E y = some (.int k2 c)) (hc : 0 ≤ c)
    (e : Rg P X b n dr ops (lo + 1) ex fl ((d, .int k1 (a.fdiv (2 ^ (min c.toNat k1.bits)))) :: E) rem k cs Γ)
    (hdn : d < n := by decide) (hex : NotYet ex lo := trivial) (hg : GuardOK ops ⟨some d, .binOp .shr t x y t', T, pos, af, gd⟩ E := by first | exact trivial | exact ⟨_, rfl, rfl⟩) :
    Rg P X b n dr ops lo ex fl E (⟨some d, .binOp .shr t x y t', T, pos, af, gd⟩ :: rem) k cs Γ :=
  rg_binGen hx hy (by simp only [binOp, Op.shift]; rw [if_neg (by omega)]) e hdn hex hg

theorem rg_and {t t' : TypeId} {x y : Operand} {kk : IntKind} {a c : Int} (hx : Env.val E x = some (.int kk a)) (hy : Env.val E y = some (.int kk c))
    (e : Rg P X b n dr ops (lo + 1) ex fl ((d, .int kk (kk.wrap (BitVec.ofInt kk.bits a &&& BitVec.ofInt kk.bits c).toNat)) :: E) rem k cs Γ)
    (hdn : d < n := by decide) (hex : NotYet ex lo := trivial) (hg : GuardOK ops ⟨some d, .binOp .and t x y t', T, pos, af, gd⟩ E := by first | exact trivial | exact ⟨_, rfl, rfl⟩) :
    Rg P X b n dr ops lo ex fl E (⟨some d, .binOp .and t x y t', T, pos, af, gd⟩ :: rem) k cs Γ :=
  rg_binGen hx hy (by simp [binOp, Op.intBits]) e hdn hex hg

theorem rg_xor {t t' : TypeId} {x y : Operand} {kk : IntKind} {a c : Int} (hx : Env.val E x = some (.int kk a)) (hy : Env.val E y = some (.int kk c))
    (e : Rg P X b n dr ops (lo + 1) ex fl ((d, .int kk (kk.wrap (BitVec.ofInt kk.bits a ^^^ BitVec.ofInt kk.bits c).toNat)) :: E) rem k cs Γ)
    (hdn : d < n := by decide) (hex : NotYet ex lo := trivial) (hg : GuardOK ops ⟨some d, .binOp .xor t x y t', T, pos, af, gd⟩ E := by first | exact trivial | exact ⟨_, rfl, rfl⟩) :
    Rg P X b n dr ops lo ex fl E (⟨some d, .binOp .xor t x y t', T, pos, af, gd⟩ :: rem) k cs Γ :=
  rg_binGen hx hy (by simp [binOp, Op.intBits]) e hdn hex hg

/-! arrays of unsigned numbers -/
abbrev dC (a : Array Int) (sk : List Value) : List Value := a.toList.map (Value.int .u64) ++ sk

theorem dC_get {a : Array Int} {sk : List Value} {i : Nat} (h : i < a.size) : (dC a sk)[i]? = some (.int .u64 a[i]!) := by
  rw [List.getElem?_append_left (by simpa using h), List.getElem?_map]
  simp [h]

theorem dC_set {a : Array Int} {sk : List Value} {i : Nat} {v : Int} (h : i < a.size) : SetL (dC a sk) i [.int .u64 v] (dC (a.setIfInBounds i v) sk) := by
  refine ⟨(a.toList.take i).map (Value.int .u64), [.int .u64 a[i]!], (a.toList.drop (i + 1)).map (Value.int .u64) ++ sk, ?_, ?_, rfl, ?_⟩
  · have e : a.toList = a.toList.take i ++ a[i]! :: a.toList.drop (i + 1) := by
      rw [getElem!_pos a i h, ← Array.getElem_toList h, ← List.drop_eq_getElem_cons, List.take_append_drop]
    unfold dC
    conv => lhs; rw [e]
    simp
  · simp; omega
  · unfold dC
    rw [Array.toList_setIfInBounds, List.set_eq_take_append_cons_drop, if_pos (by simpa using h)]
    simp

theorem rg_indexD {t el : Nat} {x y : Operand} {bl len cap : Nat} {kk : IntKind} {j : Int} (i : Nat) [u : Under P t (.slice el)] [c : CellsOf P el 1] (hx : Env.val E x = some (.slice (some ⟨bl, 0, none⟩) len cap)) (hy : Env.val E y = some (.int kk j))
    (hj : j = i) (hl : i < len) (e : Rg P X b n dr ops (lo + 1) ex fl ((d, .pointer (some ⟨bl, i, none⟩)) :: E) rem k cs Γ)
    (hdn : d < n := by decide) (hex : NotYet ex lo := trivial) (hg : GuardOK ops ⟨some d, .indexAddr t x y, T, pos, af, gd⟩ E := by first | exact trivial | exact ⟨_, rfl, rfl⟩) :
    Rg P X b n dr ops lo ex fl E (⟨some d, .indexAddr t x y, T, pos, af, gd⟩ :: rem) k cs Γ := by
  subst hj
  refine rg_indexSl (m := 1) hx hy ⟨by omega, by omega⟩ ?_ hdn hex hg
  rw [Nat.zero_add, Nat.mul_one, Int.toNat_natCast]
  exact e

theorem rg_loadD {t bl i : Nat} {x : Operand} {p : Bool} {a : Array Int} {sk : List Value} {T' : TypeId} {fz : Nat × Nat} [s : Scalar P t] (hx : Env.val E x = some (.pointer (some ⟨bl, i, none⟩))) [f : Find Γ bl p (.cells ⟨dC a sk⟩ T' fz)] (hl : i < a.size)
    (e : Rg P X b n dr ops (lo + 1) ex ((lo, fun Δ => HasCell Δ bl i (.int .u64 a[i]!)) :: fl) ((d, .int .u64 a[i]!) :: E) rem k cs Γ)
    (hdn : d < n := by decide) (hex : NotYet ex lo := trivial) (hg : GuardOK ops ⟨some d, .load t x, T, pos, af, gd⟩ E := by first | exact trivial | exact ⟨_, rfl, rfl⟩) :
    Rg P X b n dr ops lo ex fl E (⟨some d, .load t x, T, pos, af, gd⟩ :: rem) k cs Γ :=
  rg_load hx e (dC_get hl) hdn hex hg

theorem rg_storeD {t bl i : Nat} {x y : Operand} {v : Int} {a : Array Int} {sk : List Value} {T' : TypeId} {f : Obj → List Ch} [s : Scalar P t] (hx : Env.val E x = some (.pointer (some ⟨bl, i, none⟩))) (hy : Env.val E y = some (.int .u64 v))
    [r : Repl Γ bl (.cells ⟨dC a sk⟩ T' (0, 0)) f] (hl : i < a.size) (e : Rg P X b n dr ops (lo + 1) ex fl E rem k cs (f (.cells ⟨dC (a.setIfInBounds i v) sk⟩ T' (0, 0))))
    (hex : NotYet ex lo := trivial) (hg : GuardOK ops ⟨none, .store t x y, T, pos, af, gd⟩ E := by first | exact trivial | exact ⟨_, rfl, rfl⟩)
    (hc : dr = false ∨ chkLast ops lo ex = true := by first | exact .inl rfl | exact .inr (by decide +kernel))
    (hr : dr = false ∨ Reval ops ex lo fl (f (.cells ⟨dC (a.setIfInBounds i v) sk⟩ T' (0, 0))) := by first | exact .inl rfl | exact .inr (by (repeat' first | exact trivial | refine ⟨.inl (by decide +kernel), ?_⟩))) :
    Rg P X b n dr ops lo ex fl E (⟨none, .store t x y, T, pos, af, gd⟩ :: rem) k cs Γ :=
  haveI := dC_set (sk := sk) (v := v) hl
  rg_store hx hy e rfl hex hg hc hr

end
end Go.Lx

namespace Go.Lx
open Go

section
variable {P : Program} {X : Tgt} {b : Base} {n : Nat} {dr : Bool} {ops : Array Oper} {lo : Nat} {ex : List Nat} {fl : Floats} {E : Env} {rem : List Oper} {k : List Item} {cs : List Frame} {Γ : List Ch}
variable {d : Nat} {T : TypeId} {pos : String} {af : Array Edge} {gd : Option (Nat × Bool)}

theorem rg_boxOne {t : TypeId} {x : Operand} {v : Value} {vs : List Value} (hx : Env.val E x = some v) [cl : CellsL v vs] (e : ∀ bl, Rg P X b n dr ops (lo + 1) ex fl ((d, .pointer (some ⟨bl, 0, none⟩)) :: E) rem k cs (.pt bl true (.cells ⟨vs⟩ t (0, 0)) :: Γ))
    (hdn : d < n := by decide) (hex : NotYet ex lo := trivial) (hg : GuardOK ops ⟨some d, .box t x, T, pos, af, gd⟩ E := by first | exact trivial | exact ⟨_, rfl, rfl⟩)
    (hc : dr = false ∨ chkLast ops lo ex = true := by first | exact .inl rfl | exact .inr (by decide +kernel))
    (hr : ∀ bl, dr = false ∨ Reval ops ex lo fl (.pt bl true (.cells ⟨vs⟩ t (0, 0)) :: Γ) := by first | exact fun _ => .inl rfl | exact fun _ => .inr (by (repeat' first | exact trivial | refine ⟨.inr ⟨_, _, _, _, Find.mem, rfl⟩, ?_⟩ | refine ⟨.inr ⟨_, _, _, _, Find.mem, inferInstance⟩, ?_⟩ | refine ⟨.inr ⟨_, Find.mem⟩, ?_⟩ | refine ⟨.inl (by decide +kernel), ?_⟩))) :
    Rg P X b n dr ops lo ex fl E (⟨some d, .box t x, T, pos, af, gd⟩ :: rem) k cs Γ := by
  refine rg_loud (fun d' e => by cases e; exact hdn) hex hg hc (does_box hx) ?_
  rintro u Γ' ⟨bl, rfl, rfl⟩
  have hv : v.cells = ⟨vs⟩ := by rw [← cl.eq]
  rw [hv]
  exact ⟨hr bl, e bl⟩

theorem rg_makeFunc {fn : Fn} {caps : List Operand} {vs : List Value} (hc : vals E caps = some vs) (e : Rg P X b n dr ops (lo + 1) ex fl ((d, .func fn #[] ⟨vs⟩) :: E) rem k cs Γ)
    (hdn : d < n := by decide) (hex : NotYet ex lo := trivial) (hg : GuardOK ops ⟨some d, .makeFunc fn ⟨[]⟩ ⟨caps⟩, T, pos, af, gd⟩ E := by first | exact trivial | exact ⟨_, rfl, rfl⟩) :
    Rg P X b n dr ops lo ex fl E (⟨some d, .makeFunc fn ⟨[]⟩ ⟨caps⟩, T, pos, af, gd⟩ :: rem) k cs Γ :=
  rg_pure rfl hdn hex rfl hg (fun _ ρ h hρ _ => by
    have h1 : caps.map ρ = vs := vals_map caps vs (fun x hx => hρ x (by simp [Op.operands, hx])) hc
    simp only [execOp, wpE_bind', Instr.makeFunc, wpE_pure, List.map_toArray, h1, List.map_nil, nxv, and_self]) e

/-! ### Ranging over a function -/

theorem wpE_getLoop {l : Nat} {p : Bool} {L : Loop} {h : LH} {Q : Loop → LH → Prop} (hl : h l = some (p, .loop L)) (q : Q L h) : wpE P (Instr.getLoop l) Q h := by
  unfold Instr.getLoop
  rw [wpE_bind']
  exact wpE_getObj hl rfl q

theorem zip_one (t : Tmp) (v : Value) (T : Array Value) : ((#[t] : Array Tmp).zip ⟨[v]⟩).foldl (fun tmps (t, a) => tmps.setIfInBounds t a) T = T.setIfInBounds t v := by
  rw [← Array.foldl_toList]
  simp

/-- A call of a round's function. -/
theorem does_yield {x : Operand} {l : Nat} {p : Bool} {L : Loop} {args : List Operand} {at' : Array TypeId} {vs : List Value} {φ : List Ch → Prop} {dst : Option Tmp} (hx : Env.val E x = some (.func (.yield l) #[] #[])) (ha : vals E args = some vs) (hm : Ch.pt l p (.loop L) ∈ Γ) (hp : vs.length = L.params.size)
    (body : ∀ X c cs h, (∀ Γ' h', φ Γ' → Star Γ' h' → Ev P X (gor (Frame.finish c (.bool true)) cs) h') → Star Γ h →
      Ev P X (gor (Frame.round l L.fn ((L.params.zip ⟨vs⟩).foldl (fun tmps (t, a) => tmps.setIfInBounds t a) L.tmps) L.assign L.body .normal) (c :: cs)) h) :
    Does P X ⟨dst, .call ⟨.value x, ⟨args⟩, at'⟩, T, pos, af, gd⟩ E Γ (fun v Γ' => v = .bool true ∧ φ Γ') := by
  intro b R ops i l' k cs h ho hw hρ st e
  refine ev_op ho hw rfl ?_
  have hargs : args.map (evT R) = vs := vals_map args vs (fun x hx => hρ x (by simp [Op.operands, Call.operands, hx])) ha
  have h0 := hρ x (by simp [Op.operands, Call.operands]) _ hx
  simp only [execOp, resolve, wpE_bind', h0, Deferred.ofValue, wpE_pure, invoke, Instr.yield]
  refine wpE_getLoop (Star.mem hm st) ?_
  have hsz : ((#[] : Array Value) ++ Array.map (evT R) ⟨args⟩).size = L.params.size := by
    rw [List.map_toArray, hargs]; simpa using hp
  rw [if_neg (by simpa using hsz)]
  simp only [List.map_toArray, hargs, List.append_toArray, List.nil_append, wpE_pure, NxOK]
  refine body X _ cs h (fun Γ' h' hφ hs => ?_) st
  rw [finish_fr, ho]
  exact e _ Γ' h' ⟨rfl, hφ⟩ hs

theorem rg_yield {x : Operand} {l : Nat} {p : Bool} {L : Loop} {args : List Operand} {at' : Array TypeId} {vs : List Value} {φ : List Ch → Prop} (hx : Env.val E x = some (.func (.yield l) #[] #[])) (ha : vals E args = some vs) (hm : Ch.pt l p (.loop L) ∈ Γ) (hp : vs.length = L.params.size)
    (body : ∀ X c cs h, (∀ Γ' h', φ Γ' → Star Γ' h' → Ev P X (gor (Frame.finish c (.bool true)) cs) h') → Star Γ h →
      Ev P X (gor (Frame.round l L.fn ((L.params.zip ⟨vs⟩).foldl (fun tmps (t, a) => tmps.setIfInBounds t a) L.tmps) L.assign L.body .normal) (c :: cs)) h)
    (e : ∀ Γ', φ Γ' → (dr = false ∨ Reval ops ex lo fl Γ') ∧ Rg P X b n dr ops (lo + 1) ex fl ((d, .bool true) :: E) rem k cs Γ')
    (hdn : d < n := by decide) (hex : NotYet ex lo := trivial) (hg : GuardOK ops ⟨some d, .call ⟨.value x, ⟨args⟩, at'⟩, T, pos, af, gd⟩ E := by first | exact trivial | exact ⟨_, rfl, rfl⟩)
    (hl : dr = false ∨ chkLast ops lo ex = true := by first | exact .inl rfl | exact .inr (by decide +kernel)) :
    Rg P X b n dr ops lo ex fl E (⟨some d, .call ⟨.value x, ⟨args⟩, at'⟩, T, pos, af, gd⟩ :: rem) k cs Γ := by
  refine rg_loud (fun d' e => by cases e; exact hdn) hex hg hl (does_yield hx ha hm hp body) ?_
  rintro v Γ' ⟨rfl, hφ⟩
  exact e Γ' hφ

theorem ev_seen {h' : LH} {fn : FuncId} {es : Array Event} (e : ∀ x ∈ es, EvOK h' x) : ∀ x ∈ seen P fn es, EvOK h' x := fun x hx => e x (mem_seen hx)

theorem ex_beginRound {l : Nat} {L : Loop} {f : Obj → List Ch} (hro : b.ro = some l) (hk : b.kind = .normal) [r : Repl Γ l (.loop L) f] (hs : L.state = .ready) (e : Ex P X b n E k cs (f (.loop { L with state := .busy }))) : Ex P X b n E (.beginRound :: k) cs Γ := fun tmps h t st => by
  obtain ⟨Δ, p1, p2⟩ := r.perm
  have st' := st.perm p1
  have hb := Star.mem (List.mem_cons_self ..) st'
  have hw : wpE P (do b.ro.elim (stuck "beginRound: no round") Instr.beginRound; pure Next.skip) (fun nx h' => nx = .skip ∧ h' = h.put l (.loop { L with state := .busy })) h := by
    rw [hro]
    simp only [Option.elim_some, Instr.beginRound, wpE_bind']
    refine wpE_getLoop hb ?_
    refine wpE_setObj hb rfl ?_
    rw [hs]
    exact ⟨rfl, rfl⟩
  refine .one fun w hsub => ?_
  obtain ⟨nx, w', h', es', r1, r2, r3, rfl, rfl⟩ := wpE_sound _ #[] hsub hw
  have r0 : (do b.ro.elim (stuck "beginRound: no round") Instr.beginRound; pure Next.skip : Sem Next).runT P w #[] = (.ok .skip w', es') := by rw [r1]; simp
  refine ⟨_, _, w', _, _, ?_, r2, ev_seen (P := P) (fn := b.fn) r3, e tmps _ t ((st'.put).perm (p2 _))⟩
  simp only [stepG, stepG.exec, gor, Base.fr, stepG.apply, if_true, r0, hk]
  simp [GStep.after, Frame.finish]

theorem ex_roundEnd {l : Nat} {L : Loop} {f : Obj → List Ch} {c : Frame} (hro : b.ro = some l) (hk : b.kind = .normal) (hd : b.defers = []) [r : Repl Γ l (.loop L) f] (e : ∀ h, Star (f (.loop { L with state := .ready, pending := none })) h → Ev P X (gor (c.finish (.bool true)) cs) h) : Ex P X b n E [] (c :: cs) Γ := fun tmps h t st => by
  obtain ⟨Δ, p1, p2⟩ := r.perm
  have st' := st.perm p1
  have hb := Star.mem (List.mem_cons_self ..) st'
  have hw : wpE P (Instr.endRound l none) (fun v h' => v = .bool true ∧ h' = h.put l (.loop { L with state := .ready, pending := none })) h := by
    simp only [Instr.endRound, wpE_bind']
    refine wpE_getLoop hb ?_
    refine wpE_setObj hb rfl ?_
    exact ⟨rfl, rfl⟩
  refine .one fun w hsub => ?_
  obtain ⟨v, w', h', es', r1, r2, r3, rfl, rfl⟩ := wpE_sound _ #[] hsub hw
  have r0 : (Instr.endRound l none).runT P w #[] = (.ok (.bool true) w', es') := by rw [r1]; simp
  refine ⟨_, _, w', _, _, ?_, r2, ev_seen (P := P) (fn := b.fn) r3, e _ ((st'.put).perm (p2 _))⟩
  simp only [stepG, stepG.exec, gor, Base.fr, hro, r0, doReturn, hk]
  simp [GStep.after]

theorem ex_endRangeFunc {l : Nat} {L : Loop} {f : Obj → List Ch} [r : Repl Γ l (.loop L) f] (hs : L.state = .ready) (hp : L.pending = none) (e : Ex P X b n E k cs (f (.loop { L with state := .exhausted }))) : Ex P X b n E (.endRangeFunc l :: k) cs Γ := fun tmps h t st => by
  obtain ⟨Δ, p1, p2⟩ := r.perm
  have st' := st.perm p1
  have hb := Star.mem (List.mem_cons_self ..) st'
  have hw : wpE P (Instr.endLoop l) (fun v h' => v = none ∧ h' = h.put l (.loop { L with state := .exhausted })) h := by
    simp only [Instr.endLoop, wpE_bind']
    refine wpE_getLoop hb ?_
    rw [if_neg (by rw [hs]; decide)]
    simp only [wpE_bind', wpE_pure]
    refine wpE_setObj hb rfl ?_
    exact ⟨hp, rfl⟩
  refine .one fun w hsub => ?_
  obtain ⟨v, w', h', es', r1, r2, r3, rfl, rfl⟩ := wpE_sound _ #[] hsub hw
  have r0 : (Instr.endLoop l).runT P w #[] = (.ok none w', es') := by rw [r1]; simp
  refine ⟨_, _, w', _, _, ?_, r2, ev_seen (P := P) (fn := b.fn) r3, e tmps _ t ((st'.put).perm (p2 _))⟩
  simp only [stepG, stepG.exec, gor, Base.fr, r0]
  simp [GStep.after]

theorem ex_rangeFunc {x : Operand} {f : FuncId} {caps : List Value} {pars : Array Tmp} {as bd : Code} {φ : Nat → Nat → Loop → Value → List Ch → Prop} [hb : HasBody P f] (hx : Env.val E x = some (.func (.func f) #[] ⟨caps⟩)) (hro : b.ro = none) (hk : b.kind = .normal)
    (c : ∀ r l tmps L, Tms n E tmps → L = ⟨.ready, none, b.fn, tmps, pars, as, bd, r⟩ → CallsX P f (.func (.yield l) #[] #[] :: caps).toArray (.pt l true (.loop L) :: .pt r true (.deferred (some [])) :: Γ) (φ r l L))
    (e : ∀ r l L v Γ', L.state = .ready → L.pending = none → φ r l L v Γ' → Ex P X { b with defers := ⟨.collected r, #[]⟩ :: b.defers } n E (.endRangeFunc l :: k) cs Γ') : Ex P X b n E (.code (.rangeFunc x pars as bd) :: k) cs Γ := fun tmps h t st => by
  obtain ⟨fn, f1, f2, f3⟩ := hb.eq
  have hnone : fn.body.isNone = false := by cases h : fn.body <;> simp [h] at f2 ⊢
  have hw1 : wpE P (Instr.enterLoop b.fn tmps pars as bd b.ro) (fun a h' => ∃ r l, a = (l, [⟨.collected r, #[]⟩]) ∧ Star (.pt l true (.loop ⟨.ready, none, b.fn, tmps, pars, as, bd, r⟩) :: .pt r true (.deferred (some [])) :: Γ) h') h := by
    rw [hro]
    simp only [Instr.enterLoop, wpE_bind', newObj, wpE, wpE_pure]
    intro r hr l hl
    exact ⟨r, l, rfl, (st.new hr).new hl⟩
  refine .one fun w hsub => ?_
  obtain ⟨a, w1, h1, es1, r1, r2, r3, r, l, rfl, st1⟩ := wpE_sound _ #[] hsub hw1
  have r0 : (Instr.enterLoop b.fn tmps pars as bd b.ro).runT P w #[] = (.ok (l, [⟨.collected r, #[]⟩]) w1, es1) := by rw [r1]; simp
  have hev : (b.fr tmps (.code (.rangeFunc x pars as bd) :: k)).eval x = .func (.func f) #[] ⟨caps⟩ := Env.eval_of t hx
  let b' : Base := { b with defers := ⟨.collected r, #[]⟩ :: b.defers }
  have hw2 : wpE P (do let d ← resolve (b'.fr tmps (.inRangeFunc l :: k)).eval { callee := .value x, args := #[.const (.func (.yield l) #[] #[])], argTypes := #[] } 0; invoke d.target d.args) (fun nx h' => nx = .enter f (.func (.yield l) #[] #[] :: caps).toArray ∧ h' = h1) h1 := by
    have hev' : (b'.fr tmps (.inRangeFunc l :: k)).eval x = .func (.func f) #[] ⟨caps⟩ := Env.eval_of t hx
    simp only [resolve, wpE_bind', hev', Deferred.ofValue, wpE_pure, invoke, callFunc, program, wpE, f1, f3]
    simp only [Bool.false_eq_true, if_false, hnone, wpE_pure, and_true]
    simp [Frame.eval]
  obtain ⟨nx, w2, h2, es2, q1, q2, q3, rfl, rfl⟩ := wpE_sound _ #[] r2.sub hw2
  have q0 : (do let d ← resolve (b'.fr tmps (.inRangeFunc l :: k)).eval { callee := .value x, args := #[.const (.func (.yield l) #[] #[])], argTypes := #[] } 0; invoke d.target d.args : Sem Next).runT P w1 #[] = (.ok (.enter f (.func (.yield l) #[] #[] :: caps).toArray) w2, es2) := by rw [q1]; simp
  refine ⟨Frame.enter P f (.func (.yield l) #[] #[] :: caps).toArray .normal, b'.fr tmps (.inRangeFunc l :: k) :: cs, w2, h2, seen P b.fn es1 ++ seen P b.fn es2, ?_, r2.trans q2, ?_, ?_⟩
  · simp only [Base.fr, b', hk] at q0
    simp only [stepG, stepG.exec, gor, Base.fr, r0, stepG.apply, if_true, List.singleton_append, q0, hk]
    simp [GStep.after, b', hk]
  · intro y hy
    rcases Array.mem_append.1 hy with hy | hy
    · exact (ev_seen r3 y hy).upd q2
    · exact ev_seen q3 y hy
  · refine c r l tmps _ t rfl X _ h2 st1 fun fr v Γ' h' hφ hr hs => ev_return hr hs ?_
    exact e r l _ v Γ' rfl rfl hφ tmps h' t hs

/-- 'return' in a function that has ranged over a function once. -/
theorem ex_retCol {r : Nat} {φ : Value → List Ch → Prop} {fn : Func} {vs : List Value} {f : Obj → List Ch} {Γ' : List Ch} (ret : ∀ fr v Γ' h', φ v Γ' → Retd P b.fn v Γ' fr → Star Γ' h' → Ev P X (gor fr cs) h') (hf : P.funcs[b.fn]? = some fn) (hv : resV E fn.results.toList = some vs)
    [rp : Repl Γ r (.deferred (some [])) f] (en : Ent (f (.deferred none)) Γ') (e : φ (packV vs) Γ') (hk : b.kind = .normal := by rfl) (hd : b.defers = [⟨.collected r, #[]⟩] := by rfl) (hr : b.ro = none := by rfl) : Ex P X b n E (.code .ret :: k) cs Γ := fun tmps h t st => by
  obtain ⟨Δ, p1, p2⟩ := rp.perm
  have st' := st.perm p1
  have hb := Star.mem (List.mem_cons_self ..) st'
  have hw : wpE P (Instr.takeDeferred r) (fun v h' => v = [] ∧ h' = h.put r (.deferred none)) h := by
    simp only [Instr.takeDeferred, wpE_bind']
    refine wpE_getObj hb rfl ?_
    rw [wpE_bind']
    refine wpE_setObj hb rfl ?_
    show [] = [] ∧ _ = _
    exact ⟨rfl, rfl⟩
  have next : Ev P X (gor { b.fr tmps (.code .ret :: k) with mode := .returning } cs) h := by
    refine .one fun w hsub => ?_
    obtain ⟨v, w', h', es', r1, r2, r3, rfl, rfl⟩ := wpE_sound _ #[] hsub hw
    have r0 : (Instr.takeDeferred r).runT P w #[] = (.ok [] w', es') := by rw [r1]; simp
    obtain ⟨h3, le, st3⟩ := en _ ((st'.put (o' := .deferred none)).perm (p2 _))
    refine ⟨{ b.fr tmps (.code .ret :: k) with mode := .returning, defers := [] }, cs, w', _, _, ?_, r2, ev_seen (P := P) (fn := b.fn) r3, ?_⟩
    · simp only [stepG, gor, Base.fr, unwind, hd, r0]
      simp [GStep.after]
    · exact (ret { b.fr tmps (.code .ret :: k) with mode := .returning, defers := [] } _ _ h3 e ⟨rfl, rfl, rfl, hk, fn, hf, fun h'' _ => results_tmp t hv h''⟩ st3).mono le
  refine next.silent fun w => ?_
  simp [stepG, stepG.exec, gor, Base.fr, hr]

end
end Go.Lx
