/-
  JOINING: from a contract of this logic, at a world whose blocks it may read alone, to the kit's 'Calls'; what a law's row asks, at a world in which nothing has turned but new blocks.
-/
import Derived.Test.YtedaknlacigbhaaLxL
import Derived.ProofKit
import Derived.SizedLaws
import Derived.Conc.LeavingOf
namespace Go.Lx
open Go

/-- A program piece that turns nothing, not even the count of draws. -/
def RO {α : Type} : Sem α → Prop
  | .pure _ => True
  | .load _ _ k => ∀ v, RO (k v)
  | .shape _ k => ∀ s, RO (k s)
  | .frozen _ k => ∀ b, RO (k b)
  | .program k => ∀ p, RO (k p)
  | .mark _ k => RO k
  | .halt _ => True
  | _ => False

theorem RO.bind {α β : Type} {e : Sem α} {f : α → Sem β} (h : RO e) (hf : ∀ a, RO (f a)) : RO (e.bind f) := by
  induction e with
  | pure a => exact hf a
  | load m a k ih => exact fun v => ih v (h v)
  | shape r k ih => exact fun v => ih v (h v)
  | frozen a k ih => exact fun v => ih v (h v)
  | program k ih => exact fun v => ih v (h v)
  | mark m k ih => exact ih h
  | halt x => trivial
  | _ => exact h.elim

theorem RO.bind' {α β : Type} {e : Sem α} {f : α → Sem β} (h : RO e) (hf : ∀ a, RO (f a)) : RO (e >>= f) := RO.bind h hf

theorem RO.run {P : Program} {α : Type} {e : Sem α} : RO e → ∀ {w w' : World} {a : α} {es es' : Array Event}, e.runT P w es = (.ok a w', es') → w' = w ∧ e.run P w = .ok a w := by
  induction e with
  | pure a => intro _ w w' b es es' e; simp [Sem.runT] at e; exact ⟨e.1.2.symm, by simp [Sem.run, e.1.1]⟩
  | load m a k ih =>
    intro h w w' b es es' e
    rw [Sem.runT] at e
    rw [Sem.run]
    cases hc : w.cell? a with
    | some v => rw [hc] at e; exact ih v (h v) e
    | none =>
      rw [hc] at e
      cases hf : w.farLoad P a (m == .atomic) with
      | ok x => rw [hf] at e; obtain ⟨v, t⟩ := x; exact ih v (h v) e
      | error x => rw [hf] at e; simp at e
  | shape r k ih => intro h w w' b es es' e; rw [Sem.runT] at e; rw [Sem.run]; exact ih _ (h _) e
  | frozen a k ih => intro h w w' b es es' e; rw [Sem.runT] at e; rw [Sem.run]; exact ih _ (h _) e
  | program k ih => intro h w w' b es es' e; rw [Sem.runT] at e; rw [Sem.run]; exact ih _ (h _) e
  | mark m k ih => intro h w w' b es es' e; rw [Sem.runT] at e; rw [Sem.run]; exact ih h e
  | halt x => intro h w w' b es es' e; simp [Sem.runT] at e
  | _ => intro h; exact h.elim

theorem ro_pure {α : Type} (a : α) : RO (pure a : Sem α) := trivial
theorem ro_stuck {α : Type} (s : String) : RO (stuck s : Sem α) := trivial
theorem ro_underlying (t : TypeId) : RO (underlying t) := by
  intro p
  show RO (match p.underlying t with | some d => _ | none => _)
  split <;> trivial
theorem ro_typeInfo (t : TypeId) : RO (typeInfo t) := by
  intro p
  show RO (match p.info? t with | some d => _ | none => _)
  split <;> trivial
theorem ro_sizeOf (t : TypeId) : RO (sizeOf t) := RO.bind' (ro_typeInfo t) fun _ => trivial
theorem ro_isAgg (t : TypeId) : RO (isAgg t) := RO.bind' (ro_underlying t) fun d => by split <;> trivial
theorem ro_loadCellsFrom (a : Addr) : ∀ (n i : Nat) (acc : Array Value), RO (loadCellsFrom a i n acc)
  | 0, _, _ => trivial
  | n + 1, i, acc => RO.bind' (fun v => trivial) fun v => ro_loadCellsFrom a n (i + 1) _
theorem ro_loadVar (t : TypeId) (a : Addr) : RO (loadVar t a) := by
  unfold loadVar
  refine RO.bind' (ro_isAgg t) fun b => ?_
  split
  · exact RO.bind' (ro_sizeOf t) fun n => RO.bind' (ro_loadCellsFrom a n 0 _) fun _ => trivial
  · exact fun v => trivial
theorem ro_asAddr (v : Value) : RO (asAddr v) := by
  unfold asAddr
  split
  · trivial
  · exact fun p => trivial
  · trivial
theorem ro_mapM {α β : Type} {f : α → Sem β} (h : ∀ a, RO (f a)) : ∀ l : List α, RO (l.mapM f)
  | [] => by rw [List.mapM_nil]; trivial
  | a :: l => by rw [List.mapM_cons]; exact RO.bind' (h a) fun b => RO.bind' (ro_mapM h l) fun _ => trivial
theorem ro_results (fn : Func) (tmps : Array Value) : RO (results fn tmps) := by
  unfold results
  rw [← Array.toArray_toList (xs := fn.results), List.mapM_toArray]
  refine RO.bind' ?_ fun _ => trivial
  rw [map_eq_pure_bind]
  refine RO.bind' (ro_mapM (fun a => ?_) _) fun _ => trivial
  split
  · trivial
  · exact RO.bind' (ro_asAddr _) fun _ => ro_loadVar _ _

/-- New blocks, and of what was there nothing has turned. -/
structure GrownO (W W' : World) : Prop where
  os : W'.os = W.os
  output : W'.output = W.output
  size : W.heap.size ≤ W'.heap.size
  heap : ∀ i, i < W.heap.size → W'.heap[i]? = W.heap[i]?

theorem GrownO.kept {W W' : World} (g : GrownO W W') (may : MemPlace → Prop) : W.keptBut W' may := by
  refine ⟨g.os, g.output, fun i hi => ?_⟩
  rw [g.heap i hi]
  cases h : W.heap[i]? with
  | none => rfl
  | some o => cases o <;> simp

theorem GrownO.frozen {W W' : World} (g : GrownO W W') {a : Addr} (h : a.block < W.heap.size) : W'.frozen? a = W.frozen? a := by
  simp [World.frozen?, g.heap _ h]

theorem grown_of_upd {h h' : LH} {W W' : World} (u : Upd h W h' W') (hs : h.Sub W) (ro : ∀ b p o, h b = some (p, o) → p = false) : GrownO W W' where
  os := u.os
  output := u.output
  size := u.size
  heap := fun i hi => by
    cases e : h i with
    | none => exact u.keep i hi e
    | some x =>
      obtain ⟨p, o⟩ := x
      have hp := ro _ _ _ e
      obtain ⟨o', e', q⟩ := u.perm _ _ _ e
      rw [u.sub _ _ _ e', hs _ _ _ e, q hp]

theorem calls_of_callsX {P : Program} {f : FuncId} {args : Array Value} {Γ : List Ch} {φ : Value → List Ch → Prop} (c : CallsX P f args Γ φ) {h : LH} {W : World} (st : Star Γ h) (hs : h.Sub W)
    (ro : ∀ b p o, h b = some (p, o) → p = false) : Calls P f args W fun e W' => ∃ v Γ', e = .returned v ∧ φ v Γ' ∧ GrownO W W' := fun cs => by
  let X : Tgt := ⟨true, fun g h => ∃ fr v Γ' h0, g = gor fr cs ∧ φ v Γ' ∧ Retd P f v Γ' fr ∧ Star Γ' h0 ∧ h0.Le h, fun g h h' ⟨fr, v, Γ', h0, a, b, c, d, e⟩ l => ⟨fr, v, Γ', h0, a, b, c, d, e.trans l⟩⟩
  have ev := c X cs h st fun fr v Γ' h' hφ r s => .stop ⟨fr, v, Γ', h', rfl, hφ, r, s, .refl _⟩
  obtain ⟨fr', cs', W', h', s, ⟨fr, v, Γ', h0, e1, hφ, r, st', le⟩, u⟩ := lone_of_ev (X := X) rfl ev _ _ rfl W hs
  have e2 : fr' = fr ∧ cs' = cs := by
    have := e1
    simp only [gor, Goroutine.mk.injEq] at this
    exact ⟨this.1, this.2.1⟩
  obtain ⟨rfl, rfl⟩ := e2
  obtain ⟨h1, h2, h3, h4, fn, h5, h6⟩ := r
  obtain ⟨v', w', h'', es, r1, _, _, rfl, _⟩ := wpE_sound (results fn fr'.tmps) #[] (le.sub u.sub) (h6 h0 st')
  have hr := RO.run (ro_results fn fr'.tmps) r1
  exact ⟨.returned v', W', fr', ⟨v', Γ', rfl, hφ, grown_of_upd u hs ro⟩, s, h1, h2, h3, h4, fn, by rw [h1]; exact h5, hr.2⟩

theorem leaving_of_handed {a : Assume} {C : Checked} {os : Os} {f : FuncId} {Pre : World → Array Value → Prop} {Post : World → Array Value → Value → World → Prop} (h : ReturnsInHanded a C os f .any Pre Post) :
    ReturnsInLeavingWide a C os f .any Pre Post := fun enter => ReturnsInOpen.mono (fun m w t ⟨hq, hh, he⟩ => ⟨hh, ⟨fun g hg => ⟨0, by
    have := List.all_eq_true.1 hq.1 g hg
    have e : g.status = .finished := by simpa using this
    exact e⟩, hq.2⟩, he⟩) (fun _ x => x) (h enter)

section
open Go.ChangeShapes Go.WideShapes
variable {H : Type} {enc : TypeId × Value → H} {P : Program}

/-- 'post_of_same' where what is frozen is asked of what was there alone, and nothing is asked of the results again. -/
theorem post_of_grown {f : Func} {s : ChangeSpec} {apart fresh handsOn : Bool} {W W' : World} {args : Array Value} {v : Value} {ds gs : List (DataW H)} {before pa pv : List MemPlace}
    (hW : DataW.Whole enc P f.params.toList s.vars apart W args.toList ds gs before)
    (hres : ∀ (b : Nat) (sp : Nat → Bool) (hd : Bool), DataW.TrodAll enc P W' b sp hd f.resultTypes.toList (v.resultList f.resultTypes.size) (s.fn H (ds ++ gs)).results [])
    (hargs : ∀ sp : Nat → Bool, (∀ p ∈ before, sp p.block = true) → DataW.TrodAll enc P W' 0 sp true f.params.toList args.toList (s.fn H (ds ++ gs)).args pa)
    (hvars : ∀ sp : Nat → Bool, (∀ p ∈ before, sp p.block = true) → DataW.TrodVars enc P W' sp s.vars (s.fn H (ds ++ gs)).vars pv)
    (hps : before = pa ++ pv) (hk : GrownO W W') : s.post enc P f apart fresh handsOn false W args v W' := by
  have hold : ∀ p ∈ before, (fun b => decide (b < W.heap.size)) p.block = true := fun p hp => by simpa using hW.lt p hp
  refine ⟨ds, gs, before, [], pa, pv, hW, hres _ _ _, hargs _ hold, hvars _ hold, hk.kept _, fun e => by cases e⟩

end

end Go.Lx
