/-
  THE LOGIC, TWELFTH PART: functions whose results lie in cells.
-/
import Derived.Test.YtedaknlacigbhaaLxK
namespace Go.Lx
open Go

section
variable {P : Program}

/-- What a function's results are: in slots, or in cells. -/
inductive ResC (P : Program) (E : Env) (Γ : List Ch) : List ResultVar → List Value → Prop
  | nil : ResC P E Γ [] []
  | tmp {t : Nat} {l : List ResultVar} {v : Value} {vs : List Value} (h : Env.get E t = some v) (r : ResC P E Γ l vs) : ResC P E Γ (.tmp t :: l) (v :: vs)
  | agg {a t bl m : Nat} {l : List ResultVar} {vs : List Value} {p : Bool} {cl ul : List Value} {T : TypeId} {fz : Nat × Nat} [ag : AggT P t m] (h : Env.get E a = some (.pointer (some ⟨bl, 0, none⟩))) (hm : Ch.pt bl p (.cells ⟨cl⟩ T fz) ∈ Γ) (hs : SliceL cl 0 m ul) (r : ResC P E Γ l vs) : ResC P E Γ (.cell a t :: l) (.agg ⟨ul⟩ :: vs)
  | one {a t bl : Nat} {l : List ResultVar} {vs : List Value} {p : Bool} {cl : List Value} {v : Value} {T : TypeId} {fz : Nat × Nat} [sc : Scalar P t] (h : Env.get E a = some (.pointer (some ⟨bl, 0, none⟩))) (hm : Ch.pt bl p (.cells ⟨cl⟩ T fz) ∈ Γ) (hv : cl[0]? = some v) (r : ResC P E Γ l vs) : ResC P E Γ (.cell a t :: l) (v :: vs)

theorem wpE_mapM_res {tmps : Array Value} {n : Nat} {E : Env} {Γ : List Ch} (t : Tms n E tmps) {h : LH} (st : Star Γ h) {l : List ResultVar} {vs : List Value} (r : ResC P E Γ l vs) : ∀ {Q : List Value → LH → Prop}, Q vs h →
    wpE P (l.mapM (m := Sem) fun | .tmp t => pure (tmps.getD t undef) | .cell a t => do loadVar t (← asAddr (tmps.getD a undef))) Q h := by
  induction r with
  | nil => intro Q q; exact q
  | @tmp s l v vs hg r ih =>
    intro Q q
    rw [List.mapM_cons]
    have hv := t.get _ _ hg
    have hv' : tmps.getD s undef = v := by rw [Array.getD_eq_getD_getElem?, hv]; rfl
    simp only [wpE_bind', wpE_pure, hv']
    exact ih q
  | @agg a t' bl m l vs p cl ul T fz ag hg hm hs r ih =>
    intro Q q
    rw [List.mapM_cons]
    have hv := t.get _ _ hg
    have hv' : tmps.getD a undef = .pointer (some ⟨bl, 0, none⟩) := by rw [Array.getD_eq_getD_getElem?, hv]; rfl
    obtain ⟨i, i1, i2⟩ := ag.size
    simp only [wpE_bind', hv', asAddr, wpE_pure, loadVar, wpE_isAgg_true, wpE_sizeOf i1, i2, if_true]
    haveI := hs
    refine wpE_loadCells (Star.mem hm st) ?_
    exact ih q
  | @one a t' bl l vs p cl v T fz sc hg hm hv0 r ih =>
    intro Q q
    rw [List.mapM_cons]
    have hv := t.get _ _ hg
    have hv' : tmps.getD a undef = .pointer (some ⟨bl, 0, none⟩) := by rw [Array.getD_eq_getD_getElem?, hv]; rfl
    simp only [wpE_bind', hv', asAddr, wpE_pure, loadVar, wpE_isAgg_false, Bool.false_eq_true, if_false]
    have hb := Star.mem hm st
    exact wpE_load (a := ⟨bl, 0, none⟩) hb rfl (by simpa using hv0) (ih q)

theorem results_cell {fn : Func} {tmps : Array Value} {n : Nat} {E : Env} {Γ : List Ch} (t : Tms n E tmps) {vs : List Value} (e : ResC P E Γ fn.results.toList vs) (h : LH) (st : Star Γ h) :
    wpE P (results fn tmps) (fun v' h' => v' = packV vs ∧ h' = h) h := by
  unfold results
  rw [← Array.toArray_toList (xs := fn.results), List.mapM_toArray]
  simp only [wpE_bind', map_eq_pure_bind, bind_assoc, pure_bind, wpE_pure]
  refine wpE_mapM_res t st e ⟨?_, rfl⟩
  match vs with
  | [] => rfl
  | [v] => rfl
  | v :: u :: vs => rfl

end

section
variable {P : Program} {X : Tgt} {b : Base} {n : Nat} {E : Env} {k : List Item} {cs : List Frame} {Γ Γ' : List Ch}

/-- 'return' where results lie in cells: what the cells are stays said. -/
theorem ex_retC {φ : Value → List Ch → Prop} {fn : Func} {vs : List Value} (ret : ∀ fr v Γ' h', φ v Γ' → Retd P b.fn v Γ' fr → Star Γ' h' → Ev P X (gor fr cs) h') (hf : P.funcs[b.fn]? = some fn)
    (en : Ent Γ Γ') (hv : ResC P E Γ' fn.results.toList vs) (e : φ (packV vs) Γ') (hk : b.kind = .normal := by rfl) (hd : b.defers = [] := by rfl) (hr : b.ro = none := by rfl) : Ex P X b n E (.code .ret :: k) cs Γ :=
  Ex.ent en fun tmps h t s => by
    refine (ret { b.fr tmps (.code .ret :: k) with mode := .returning } _ _ h e ⟨rfl, rfl, hd, hk, fn, hf, fun h' s' => results_cell t hv h' s'⟩ s).silent (fun w => ?_)
    simp [stepG, stepG.exec, gor, Base.fr, hr]

end
end Go.Lx
