/-
  THE LOGIC, ELEVENTH PART: slice and array literals, copy.
-/
import Derived.Test.YtedaknlacigbhaaLxJ
namespace Go.Lx
open Go

def enumV : Nat → List Value → List (Nat × Value)
  | _, [] => []
  | i, v :: vs => (i, v) :: enumV (i + 1) vs

def flatC (vs : List Value) : List Value := vs.flatMap fun v => v.cells.toList

theorem fill_seq {m : Nat} : ∀ (vs : List Value) (i : Nat) (pre rest : List Value), pre.length = i * m → rest.length = vs.length * m → (∀ v ∈ vs, v.cells.toList.length = m) →
    Instr.fill (fun i => some (i * m, m)) ⟨pre ++ rest⟩ (enumV i vs) = some ⟨pre ++ flatC vs⟩ := by
  intro vs
  induction vs with
  | nil =>
    intro i pre rest _ h _
    have : rest = [] := List.length_eq_zero_iff.1 (by simpa using h)
    subst this; rfl
  | cons v vs ih =>
    intro i pre rest h1 h2 h3
    have hv := h3 v (List.mem_cons_self ..)
    have h2' : rest.length = m + vs.length * m := by rw [h2, List.length_cons, Nat.add_mul]; omega
    haveI : SetL (pre ++ rest) (i * m) v.cells.toList (pre ++ v.cells.toList ++ rest.drop m) := ⟨pre, rest.take m, rest.drop m, by rw [List.append_assoc, List.take_append_drop], h1, by rw [List.length_take, hv]; omega, rfl⟩
    rw [enumV, fill_set (off := i * m) (l' := pre ++ v.cells.toList ++ rest.drop m) (by rw [hv])]
    rw [ih (i + 1) (pre ++ v.cells.toList) (rest.drop m) (by rw [List.length_append, h1, hv, Nat.add_mul]; omega) (by rw [List.length_drop, h2']; omega) (fun w hw => h3 w (List.mem_cons_of_mem _ hw))]
    simp [flatC]

section
variable {P : Program} {X : Tgt} {b : Base} {n : Nat} {dr : Bool} {ops : Array Oper} {lo : Nat} {ex : List Nat} {fl : Floats} {E : Env} {rem : List Oper} {k : List Item} {cs : List Frame} {Γ : List Ch}
variable {d : Nat} {T : TypeId} {pos : String} {af : Array Edge} {gd : Option (Nat × Bool)}

theorem rg_buildSlice {t el m bytes len : Nat} {parts : List (Nat × Operand)} {vs : List Value} {l : List Value} [u : Under P t (.slice el)] [eo : ElemOf P el m bytes] (hp : partsV E parts = some (enumV 0 vs)) (hlen : vs.length = len) (hc : vs.all (fun v => v.cells.size == m) = true) (hl : flatC vs = l)
    (e : ∀ bl, Rg P X b n dr ops (lo + 1) ex fl ((d, .slice (some ⟨bl, 0, none⟩) len len) :: E) rem k cs (.pt bl true (.cells ⟨l⟩ el (0, 0)) :: Γ))
    (hbd : len * m ≤ 2 ^ 24 := by decide)
    (hdn : d < n := by decide) (hex : NotYet ex lo := trivial) (hg : GuardOK ops ⟨some d, .buildSlice t len ⟨parts⟩, T, pos, af, gd⟩ E := by first | exact trivial | exact ⟨_, rfl, rfl⟩)
    (hch : dr = false ∨ chkLast ops lo ex = true := by first | exact .inl rfl | exact .inr (by decide +kernel))
    (hr : ∀ bl, dr = false ∨ Reval ops ex lo fl (.pt bl true (.cells ⟨l⟩ el (0, 0)) :: Γ) := by first | exact fun _ => .inl rfl | exact fun _ => .inr (by (repeat' first | exact trivial | refine ⟨.inr ⟨_, _, _, _, Find.mem, rfl⟩, ?_⟩ | refine ⟨.inr ⟨_, _, _, _, Find.mem, inferInstance⟩, ?_⟩ | refine ⟨.inr ⟨_, Find.mem⟩, ?_⟩ | refine ⟨.inl (by decide +kernel), ?_⟩))) :
    Rg P X b n dr ops lo ex fl E (⟨some d, .buildSlice t len ⟨parts⟩, T, pos, af, gd⟩ :: rem) k cs Γ := by
  refine rg_loud (φ := fun v Γ' => ∃ bl, v = .slice (some ⟨bl, 0, none⟩) len len ∧ Γ' = .pt bl true (.cells ⟨l⟩ el (0, 0)) :: Γ) (fun d e => by cases e; exact hdn) hex hg hch ?_ ?_
  · refine does_of_wp rfl fun ρ h hρ st => ?_
    have hpm := partsV_map parts _ (fun x hx => hρ x (by simpa [Op.operands] using hx)) hp
    obtain ⟨i, z, i1, i2, i3, i4, i5⟩ := eo.eq
    have hparts : (Array.map (fun (x : Nat × Operand) => (x.1, ρ x.2)) ⟨parts⟩).toList = enumV 0 vs := by simpa using hpm
    have hcs : ∀ v ∈ vs, v.cells.toList.length = m := fun v hv => by have := List.all_eq_true.1 hc v hv; simpa using this
    have hfin : ∀ zc : Array Value, wpE P (do
        let some cells := Instr.fill (fun i => some (i * m, m)) ((Array.range (len * m)).map (zc[· % zc.size]!)) (Array.map (fun (x : Nat × Operand) => (x.1, ρ x.2)) ⟨parts⟩).toList | stuck "buildSlice: a part of the wrong size"
        pure (Value.slice (some (← newRow el cells)) len len)) (fun a h' => ∃ v Γ', nxv (Next.value a) = some v ∧ (∃ bl, v = .slice (some ⟨bl, 0, none⟩) len len ∧ Γ' = .pt bl true (.cells ⟨l⟩ el (0, 0)) :: Γ) ∧ Star Γ' h') h := by
      intro zc
      have hfs := fill_seq (m := m) vs 0 [] ((Array.range (len * m)).map (zc[· % zc.size]!)).toList (by simp) (by rw [← hlen]; simp) hcs
      have e0 : (Array.mk ([] ++ ((Array.range (len * m)).map (zc[· % zc.size]!)).toList)) = (Array.range (len * m)).map (zc[· % zc.size]!) := by rw [List.nil_append]
      rw [e0] at hfs
      rw [hparts, hfs]
      simp only [newRow, newObj, wpE_bind', wpE, wpE_pure, List.nil_append]
      intro bl hbl
      refine ⟨_, _, rfl, ⟨bl, rfl, rfl⟩, ?_⟩
      rw [hl]
      exact st.new hbl
    simp only [execOp, wpE_bind', Instr.buildSlice, wpE_underlying u.eq, wpE_sizeOf i1, i2]
    rw [if_neg (by omega)]
    simp only [wpE_pure] at hfin ⊢
    split
    · simp only [wpE_bind', wpE_pure] at hfin ⊢
      exact hfin #[]
    · simp only [wpE_bind', wpE_zeroValue i1 i4, wpE_pure] at hfin ⊢
      exact hfin z.cells
  · rintro v Γ' ⟨bl, rfl, rfl⟩
    exact ⟨hr bl, e bl⟩

/-- 'copy' of a slice of the program's own into a new array of its length. -/
theorem rg_copyOwn {t el m bytes : Nat} {t2 : TypeId} {x y : Operand} {s : Value} {bl len cap : Nat} {l xs : List Value} [u : Under P t (.slice el)] [eo : ElemOf P el m bytes] (hx : Env.val E x = some (.slice (some ⟨bl, 0, none⟩) len cap)) (hy : Env.val E y = some s)
    (hlen : l.length = len * m) (hone : ∀ v ∈ xs, oneC v = true)
    (e : Rg P X b n dr ops (lo + 1) ex fl ((d, .int .i64 len) :: E) rem k cs (.pt bl true (.cells ⟨xs⟩ el (0, 0)) :: .pr (SlV el m s xs len) :: Γ))
    (hdn : d < n := by decide) (hex : NotYet ex lo := trivial) (hg : GuardOK ops ⟨some d, .call ⟨.builtin .copy, ⟨[x, y]⟩, ⟨[t, t2]⟩⟩, T, pos, af, gd⟩ E := by first | exact trivial | exact ⟨_, rfl, rfl⟩)
    (hc : dr = false ∨ chkLast ops lo ex = true := by first | exact .inl rfl | exact .inr (by decide +kernel))
    (hr : dr = false ∨ Reval ops ex lo fl (.pt bl true (.cells ⟨xs⟩ el (0, 0)) :: .pr (SlV el m s xs len) :: Γ) := by first | exact .inl rfl | exact .inr (by (repeat' first | exact trivial | refine ⟨.inr ⟨_, _, _, _, Find.mem, rfl⟩, ?_⟩ | refine ⟨.inr ⟨_, _, _, _, Find.mem, inferInstance⟩, ?_⟩ | refine ⟨.inr ⟨_, Find.mem⟩, ?_⟩ | refine ⟨.inl (by decide +kernel), ?_⟩))) :
    Rg P X b n dr ops lo ex fl E (⟨some d, .call ⟨.builtin .copy, ⟨[x, y]⟩, ⟨[t, t2]⟩⟩, T, pos, af, gd⟩ :: rem) k cs (.pt bl true (.cells ⟨l⟩ el (0, 0)) :: .pr (SlV el m s xs len) :: Γ) := by
  refine rg_loud (φ := fun v Γ' => v = .int .i64 len ∧ Γ' = .pt bl true (.cells ⟨xs⟩ el (0, 0)) :: .pr (SlV el m s xs len) :: Γ) (fun d e => by cases e; exact hdn) hex hg hc ?_ ?_
  · refine does_of_wp rfl fun ρ h hρ st => ?_
    have h1 := hρ x (by simp [Op.operands, Call.operands]) _ hx
    have h2 := hρ y (by simp [Op.operands, Call.operands]) _ hy
    obtain ⟨i, z, i1, i2, i3, i4, i5⟩ := eo.eq
    have hb := Star.mem (List.mem_cons_self ..) st
    have hxs : xs.length = len * m := by
      obtain ⟨_, _, _, _, _, _, _, v, _⟩ := st
      exact v.len
    have hfin : ∀ h', Star (.pt bl true (.cells ⟨xs⟩ el (0, 0)) :: .pr (SlV el m s xs len) :: Γ) h' → ∃ v Γ', nxv (Next.value (goInt len)) = some v ∧ (v = .int .i64 len ∧ Γ' = .pt bl true (.cells ⟨xs⟩ el (0, 0)) :: .pr (SlV el m s xs len) :: Γ) ∧ Star Γ' h' := fun h' st' => ⟨_, _, rfl, ⟨rfl, rfl⟩, st'⟩
    have hput := hfin _ st.put
    have hst : wpE P (storeCells ⟨bl, 0, none⟩ xs) (fun _ h' => ∃ v Γ', nxv (Next.value (goInt len)) = some v ∧ (v = .int .i64 len ∧ Γ' = .pt bl true (.cells ⟨xs⟩ el (0, 0)) :: .pr (SlV el m s xs len) :: Γ) ∧ Star Γ' h') h := by
      refine wpE_storeCells xs [] l [] 0 h hone (by simpa using hb) rfl (by rw [hlen, hxs]) (T := el) (fz := (0, 0)) (Nat.le_refl 0) ?_ ?_
      · intro _; simpa using hput
      · intro h0
        have : l = [] := List.length_eq_zero_iff.1 (by rw [hlen, ← hxs, h0]; rfl)
        subst this; subst h0
        exact hfin h st
    have hs : (s = .slice none 0 0 ∧ xs = [] ∧ len = 0) ∨ ∃ bl cap slack, s = .slice (some ⟨bl, 0, none⟩) len cap ∧ h bl = some (true, .cells ⟨xs ++ slack⟩ el (0, 0)) := by
      rcases star_slv.1 st.swap with ⟨a, b, c, _⟩ | ⟨bl, cap, slack, a, _, _, _, st'⟩
      · exact .inl ⟨a, b, c⟩
      · exact .inr ⟨bl, cap, slack, a, Star.mem (List.mem_cons_self ..) st'⟩
    refine wpE_builtin rfl ?_
    simp only [List.map_toArray, List.map_cons, List.map_nil, h1, h2, builtin, Builtin.copy_, wpE_bind', List.getElem?_toArray, List.getElem?_cons_zero, List.getElem?_cons_succ, wpE_underlying u.eq]
    rcases hs with ⟨rfl, rfl, rfl⟩ | ⟨bl', cap', slack, rfl, hb'⟩
    · simp only [Builtin.lenOf, wpE_bind', wpE_pure, wpE_sizeOf i1, Nat.zero_min, Builtin.firstCells]
      exact hst
    · simp only [Builtin.lenOf, wpE_bind', wpE_pure, wpE_sizeOf i1, Builtin.firstCells]
      have hmin : len.min len = len := Nat.min_self len
      rw [hmin, i2]
      haveI : SliceL (xs ++ slack) 0 (len * m) xs := ⟨[], slack, rfl, rfl, hxs⟩
      refine wpE_loadCells hb' ?_
      exact hst
  · rintro v Γ' ⟨rfl, rfl⟩
    exact ⟨hr, e⟩

end
end Go.Lx
