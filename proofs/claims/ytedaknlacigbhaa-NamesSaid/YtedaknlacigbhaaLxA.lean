/-
  A LOGIC OF ONE GOROUTINE OVER A LOCAL HEAP. What is proved: 'wpE_sound': where the memory-free reading 'wpE' of one operation over a local heap holds, the operation runs so in every world that holds this heap, leaves the rest of memory alone, and lists only accesses to it. No condition.
-/
import Derived.Calls
namespace Go.Lx
open Go

/-- A local heap: of some blocks, whether they may be written, and what they hold. -/
abbrev LH := Nat → Option (Bool × Obj)

def LH.Sub (h : LH) (w : World) : Prop := ∀ b p o, h b = some (p, o) → w.heap[b]? = some o

def LH.put (h : LH) (b : Nat) (o : Obj) : LH := fun b' => if b' = b then some (true, o) else h b'

def isCells : Obj → Bool
  | .cells .. => true
  | _ => false

def shapeOf : Obj → Option (TypeId × Nat)
  | .cells c T _ => some (T, c.size)
  | _ => none

def frozenOf : Obj → Addr → Bool
  | .cells _ _ (lo, hi), a => lo ≤ a.off && a.off < hi
  | _, _ => false

def oneC : Value → Bool
  | .agg _ | .tuple _ => false
  | _ => true

def okMark : Mark → Bool
  | .extern _ => true
  | .noRoom => true
  | _ => false

def wpE (P : Program) {α : Type} : Sem α → (α → LH → Prop) → LH → Prop
  | .pure a, Q, h => Q a h
  | .load _ a k, Q, h => ∃ p c T fz v, h a.block = some (p, .cells c T fz) ∧ a.spot = none ∧ c[a.off]? = some v ∧ wpE P (k v) Q h
  | .store _ a v k, Q, h => oneC v = true ∧ ∃ c T fz v0, h a.block = some (true, .cells c T fz) ∧ a.spot = none ∧ c[a.off]? = some v0 ∧
      frozenOf (.cells c T fz) a = false ∧ wpE P k Q (h.put a.block (.cells (c.setIfInBounds a.off v) T fz))
  | .new o k, Q, h => ∀ b, h b = none → wpE P (k b) Q (h.put b o)
  | .shape r k, Q, h => ∃ p o, h r = some (p, o) ∧ wpE P (k (shapeOf o)) Q h
  | .freeze _ _ _, _, _ => False
  | .frozen a k, Q, h => ∃ p o, h a.block = some (p, o) ∧ wpE P (k (frozenOf o a)) Q h
  | .getObj r k, Q, h => ∃ p o, h r = some (p, o) ∧ isCells o = false ∧ wpE P (k o) Q h
  | .setObj r o k, Q, h => ∃ o0, h r = some (true, o0) ∧ isCells o0 = false ∧ wpE P k Q (h.put r o)
  | .choose q k, Q, h => ∀ n, (if q.forced then n = 0 else ∃ t, n = q.cut t) → wpE P (k n) Q h
  | .sys _ _, _, _ => False
  | .program k, Q, h => wpE P (k P) Q h
  | .mark m k, Q, h => okMark m = true ∧ wpE P k Q h
  | .halt _, _, _ => False

theorem wpE_bind {P : Program} {α β : Type} (e : Sem α) (f : α → Sem β) (Q : β → LH → Prop) (h : LH) :
    wpE P (e.bind f) Q h ↔ wpE P e (fun a h' => wpE P (f a) Q h') h := by
  induction e generalizing h with
  | pure a => simp [Sem.bind, wpE]
  | load m a k ih => simp [Sem.bind, wpE, ih]
  | store m a v k ih => simp [Sem.bind, wpE, ih]
  | new o k ih => simp [Sem.bind, wpE, ih]
  | shape r k ih => simp [Sem.bind, wpE, ih]
  | freeze a n k ih => simp [Sem.bind, wpE]
  | frozen a k ih => simp [Sem.bind, wpE, ih]
  | getObj r k ih => simp [Sem.bind, wpE, ih]
  | setObj r o k ih => simp [Sem.bind, wpE, ih]
  | choose q k ih => simp [Sem.bind, wpE, ih]
  | sys c k ih => simp [Sem.bind, wpE]
  | program k ih => simp [Sem.bind, wpE, ih]
  | mark m k ih => simp [Sem.bind, wpE, ih]
  | halt h => simp [Sem.bind, wpE]

@[simp] theorem wpE_bind' {P : Program} {α β : Type} (e : Sem α) (f : α → Sem β) (Q : β → LH → Prop) (h : LH) :
    wpE P (e >>= f) Q h = wpE P e (fun a h' => wpE P (f a) Q h') h := propext (wpE_bind e f Q h)

@[simp] theorem wpE_pure {P : Program} {α : Type} (a : α) (Q : α → LH → Prop) (h : LH) : wpE P (pure a : Sem α) Q h = Q a h := rfl
@[simp] theorem wpE_pure' {P : Program} {α : Type} (a : α) (Q : α → LH → Prop) (h : LH) : wpE P (Sem.pure a) Q h = Q a h := rfl

theorem wpE_mono {P : Program} {α : Type} (e : Sem α) {Q Q' : α → LH → Prop} {h : LH} (hw : wpE P e Q h) (hq : ∀ a h', Q a h' → Q' a h') : wpE P e Q' h := by
  induction e generalizing h with
  | pure a => exact hq _ _ hw
  | load m a k ih => obtain ⟨p, c, T, fz, v, h1, h2, h3, h4⟩ := hw; exact ⟨p, c, T, fz, v, h1, h2, h3, ih _ h4⟩
  | store m a v k ih => obtain ⟨h0, c, T, fz, v0, h1, h2, h3, h4, h5⟩ := hw; exact ⟨h0, c, T, fz, v0, h1, h2, h3, h4, ih h5⟩
  | new o k ih => exact fun b hb => ih _ (hw b hb)
  | shape r k ih => obtain ⟨p, o, h1, h2⟩ := hw; exact ⟨p, o, h1, ih _ h2⟩
  | freeze a n k ih => exact hw.elim
  | frozen a k ih => obtain ⟨p, o, h1, h2⟩ := hw; exact ⟨p, o, h1, ih _ h2⟩
  | getObj r k ih => obtain ⟨p, o, h1, h2, h3⟩ := hw; exact ⟨p, o, h1, h2, ih _ h3⟩
  | setObj r o k ih => obtain ⟨o0, h1, h2, h3⟩ := hw; exact ⟨o0, h1, h2, ih h3⟩
  | choose q k ih => exact fun n hn => ih _ (hw n hn)
  | sys c k ih => exact hw.elim
  | program k ih => exact ih _ hw
  | mark m k ih => exact ⟨hw.1, ih hw.2⟩
  | halt x => exact hw.elim

/-- What one goroutine's steps do to the world, seen from its local heap. -/
structure Upd (h : LH) (w : World) (h' : LH) (w' : World) : Prop where
  sub : h'.Sub w'
  size : w.heap.size ≤ w'.heap.size
  perm : ∀ b p o, h b = some (p, o) → ∃ o', h' b = some (p, o') ∧ (p = false → o' = o)
  new : ∀ b p o, h b = none → h' b = some (p, o) → w.heap.size ≤ b ∧ p = true
  keep : ∀ b, b < w.heap.size → h b = none → w'.heap[b]? = w.heap[b]?
  os : w'.os = w.os
  output : w'.output = w.output
  tape : w'.tape = w.tape
  drawn : w.drawn ≤ w'.drawn

theorem Upd.refl {h : LH} {w : World} (hs : h.Sub w) : Upd h w h w where
  sub := hs
  size := Nat.le_refl _
  perm := fun b p o e => ⟨o, e, fun _ => rfl⟩
  new := fun b p o e e' => by rw [e] at e'; cases e'
  keep := fun _ _ _ => rfl
  os := rfl
  output := rfl
  tape := rfl
  drawn := Nat.le_refl _

theorem Upd.trans {h h' h'' : LH} {w w' w'' : World} (a : Upd h w h' w') (b : Upd h' w' h'' w'') : Upd h w h'' w'' where
  sub := b.sub
  size := Nat.le_trans a.size b.size
  perm := fun x p o e => by
    obtain ⟨o1, e1, q1⟩ := a.perm x p o e
    obtain ⟨o2, e2, q2⟩ := b.perm x p o1 e1
    exact ⟨o2, e2, fun hp => (q2 hp).trans (q1 hp)⟩
  new := fun x p o e e2 => by
    cases e1 : h' x with
    | none => exact ⟨Nat.le_trans a.size (b.new x p o e1 e2).1, (b.new x p o e1 e2).2⟩
    | some po =>
      obtain ⟨p1, o1⟩ := po
      obtain ⟨l, hp⟩ := a.new x p1 o1 e e1
      obtain ⟨o3, e3, _⟩ := b.perm x p1 o1 e1
      rw [e2] at e3; cases e3
      exact ⟨l, hp⟩
  keep := fun x hx e => by
    cases e1 : h' x with
    | none => rw [b.keep x (Nat.lt_of_lt_of_le hx a.size) e1, a.keep x hx e]
    | some po => obtain ⟨p1, o1⟩ := po; exact absurd hx (Nat.not_lt.2 (a.new x p1 o1 e e1).1)
  os := b.os.trans a.os
  output := b.output.trans a.output
  tape := b.tape.trans a.tape
  drawn := Nat.le_trans a.drawn b.drawn

/-- An access that a step lists: of a block of the heap that it leaves; a write: of one that may be written. -/
def EvOK (h : LH) (e : Event) : Prop :=
  match e.loc with
  | .cell a => ∃ p o, h a.block = some (p, o) ∧ (e.write = true → p = true)
  | .obj r => ∃ p o, h r = some (p, o) ∧ (e.write = true → p = true)
  | .mark m => okMark m = true
  | _ => False

theorem EvOK.upd {h h' : LH} {w w' : World} {e : Event} (u : Upd h w h' w') (k : EvOK h e) : EvOK h' e := by
  unfold EvOK at *
  split
  · rename_i a hl; rw [hl] at k; obtain ⟨p, o, h1, h2⟩ := k; obtain ⟨o', h3, _⟩ := u.perm _ _ _ h1; exact ⟨p, o', h3, h2⟩
  · rename_i a hl; rw [hl] at k; obtain ⟨p, o, h1, h2⟩ := k; obtain ⟨o', h3, _⟩ := u.perm _ _ _ h1; exact ⟨p, o', h3, h2⟩
  · rename_i m hl; rw [hl] at k; exact k
  · rename_i l h1 h2 h3; revert k; split
    · rename_i a hl; exact fun _ => absurd hl (h1 _)
    · rename_i a hl; exact fun _ => absurd hl (h2 _)
    · rename_i a hl; exact fun _ => absurd hl (h3 _)
    · exact id

theorem lt_of_heap {w : World} {b : Nat} {o : Obj} (h : w.heap[b]? = some o) : b < w.heap.size := by
  rcases Nat.lt_or_ge b w.heap.size with hl | hl
  · exact hl
  · simp [Array.getElem?_eq_none hl] at h

theorem upd_put {h : LH} {w w' : World} {b : Nat} {o o0 : Obj} (hs : h.Sub w) (hb : h b = some (true, o0))
    (hw : w'.heap = w.heap.setIfInBounds b o) (e1 : w'.os = w.os) (e2 : w'.output = w.output) (e3 : w'.tape = w.tape) (e4 : w'.drawn = w.drawn) : Upd h w (h.put b o) w' := by
  have hl := lt_of_heap (hs _ _ _ hb)
  refine ⟨?_, by rw [hw]; simp, ?_, ?_, ?_, e1, e2, e3, by omega⟩
  · intro x p o' hx
    unfold LH.put at hx
    rw [hw]
    split at hx
    · subst_vars; cases hx; simp [hl]
    · rename_i hne; rw [Array.getElem?_setIfInBounds_ne (fun e => hne e.symm)]; exact hs _ _ _ hx
  · intro x p o' hx
    by_cases e : x = b
    · subst e; rw [hb] at hx; cases hx; exact ⟨o, by simp [LH.put], fun e => by cases e⟩
    · exact ⟨o', by simp [LH.put, e, hx], fun _ => rfl⟩
  · intro x p o' hx hx'
    unfold LH.put at hx'
    split at hx'
    · subst_vars; rw [hb] at hx; cases hx
    · rw [hx] at hx'; cases hx'
  · intro x hx hn
    rw [hw, Array.getElem?_setIfInBounds_ne]
    intro e; subst e; rw [hb] at hn; cases hn

theorem upd_new {h : LH} {w : World} {o : Obj} (hs : h.Sub w) : h w.heap.size = none ∧ Upd h w (h.put w.heap.size o) { w with heap := w.heap.push o } := by
  have hn : h w.heap.size = none := by
    cases e : h w.heap.size with
    | none => rfl
    | some po => obtain ⟨p, o'⟩ := po; have := lt_of_heap (hs _ _ _ e); omega
  refine ⟨hn, ?_, by simp, ?_, ?_, ?_, rfl, rfl, rfl, Nat.le_refl _⟩
  · intro x p o' hx
    unfold LH.put at hx
    split at hx
    · subst_vars; cases hx; simp
    · have h1 := hs _ _ _ hx; have h2 := lt_of_heap h1; show (w.heap.push o)[x]? = _; rw [Array.getElem?_push_lt h2]; rw [Array.getElem?_eq_getElem h2] at h1; exact h1
  · intro x p o' hx
    refine ⟨o', ?_, fun _ => rfl⟩
    unfold LH.put; split
    · subst_vars; rw [hn] at hx; cases hx
    · exact hx
  · intro x p o' hx hx'
    unfold LH.put at hx'
    split at hx'
    · subst_vars; cases hx'; exact ⟨Nat.le_refl _, rfl⟩
    · rw [hx] at hx'; cases hx'
  · intro x hx _; show (w.heap.push o)[x]? = _; rw [Array.getElem?_push_lt hx, Array.getElem?_eq_getElem hx]

theorem upd_draw {h : LH} {w : World} (hs : h.Sub w) : Upd h w h { w with drawn := w.drawn + 1 } :=
  ⟨hs, Nat.le_refl _, fun _ _ o e => ⟨o, e, fun _ => rfl⟩, (fun _ _ _ e e' => by rw [e] at e'; cases e'), fun _ _ _ => rfl, rfl, rfl, rfl, Nat.le_succ _⟩

theorem cell_of {h : LH} {w : World} (hs : h.Sub w) {a : Addr} {p : Bool} {c : Array Value} {T : TypeId} {fz : Nat × Nat} {v : Value}
    (h1 : h a.block = some (p, .cells c T fz)) (h2 : a.spot = none) (h3 : c[a.off]? = some v) : w.cell? a = some v := by
  simp [World.cell?, hs _ _ _ h1, h2, h3]

theorem frozen_of {h : LH} {w : World} (hs : h.Sub w) {a : Addr} {p : Bool} {o : Obj}
    (h1 : h a.block = some (p, o)) : w.frozen? a = frozenOf o a := by
  cases o <;> simp [World.frozen?, hs _ _ _ h1, frozenOf]

theorem wpE_sound {P : Program} {α : Type} (e : Sem α) {Q : α → LH → Prop} {h : LH} {w : World} (es : Array Event) (hs : h.Sub w) (hw : wpE P e Q h) :
    ∃ a w' h' es', e.runT P w es = (.ok a w', es ++ es') ∧ Upd h w h' w' ∧ (∀ x ∈ es', EvOK h' x) ∧ Q a h' := by
  induction e generalizing h w es with
  | pure a => exact ⟨a, w, h, #[], by simp [Sem.runT], .refl hs, by simp, hw⟩
  | load m a k ih =>
    obtain ⟨p, c, T, fz, v, h1, h2, h3, h4⟩ := hw
    obtain ⟨a', w', h', es', r1, r2, r3, r4⟩ := ih v (es.push ⟨.cell a, false, m == .atomic⟩) hs h4
    refine ⟨a', w', h', #[⟨.cell a, false, m == .atomic⟩] ++ es', ?_, r2, ?_, r4⟩
    · rw [Sem.runT, cell_of hs h1 h2 h3]; simp only []; rw [r1]; simp
    · intro x hx
      rcases Array.mem_append.1 hx with hx | hx
      · simp at hx; subst hx; exact EvOK.upd r2 ⟨p, _, h1, fun e => by cases e⟩
      · exact r3 x hx
  | store m a v k ih =>
    obtain ⟨h0, c, T, fz, v0, h1, h2, h3, h4, h5⟩ := hw
    have hfz := frozen_of hs h1
    rw [h4] at hfz
    have hu : Upd h w (h.put a.block (.cells (c.setIfInBounds a.off v) T fz)) (w.setCell a v) := by
      refine upd_put hs h1 ?_ rfl rfl rfl rfl
      have hl := lt_of_heap (hs _ _ _ h1)
      have hg : w.heap[a.block] = .cells c T fz := by have := hs _ _ _ h1; rw [Array.getElem?_eq_getElem hl] at this; exact Option.some.inj this
      apply Array.ext
      · simp [World.setCell]
      · intro i hi1 hi2
        simp only [World.setCell, Array.getElem_modify]
        by_cases e : a.block = i
        · subst e; simp [hg, h2]
        · rw [if_neg e, Array.getElem_setIfInBounds_ne _ e]
    obtain ⟨a', w', h', es', r1, r2, r3, r4⟩ := ih (es.push ⟨.cell a, true, m == .atomic⟩) hu.sub h5
    refine ⟨a', w', h', #[⟨.cell a, true, m == .atomic⟩] ++ es', ?_, hu.trans r2, ?_, r4⟩
    · have hr : (Sem.store m a v k).runT P w es = k.runT P (w.setCell a v) (es.push ⟨.cell a, true, m == .atomic⟩) := by
        cases v <;> first | (simp [oneC] at h0; done) | simp [Sem.runT, cell_of hs h1 h2 h3, hfz]
      rw [hr, r1]; simp
    · intro x hx
      rcases Array.mem_append.1 hx with hx | hx
      · simp at hx; subst hx; exact EvOK.upd r2 ⟨true, _, by simp [LH.put]; rfl, fun _ => rfl⟩
      · exact r3 x hx
  | new o k ih =>
    obtain ⟨hn, hu⟩ := upd_new (o := o) hs
    obtain ⟨a', w', h', es', r1, r2, r3, r4⟩ := ih _ es hu.sub (hw _ hn)
    exact ⟨a', w', h', es', by rw [Sem.runT]; exact r1, hu.trans r2, r3, r4⟩
  | shape r k ih =>
    obtain ⟨p, o, h1, h2⟩ := hw
    have e : w.shape? r = shapeOf o := by cases o <;> simp [World.shape?, hs _ _ _ h1, shapeOf]
    obtain ⟨a', w', h', es', r1, r2, r3, r4⟩ := ih _ es hs h2
    exact ⟨a', w', h', es', by rw [Sem.runT, e]; exact r1, r2, r3, r4⟩
  | freeze a n k ih => exact hw.elim
  | frozen a k ih =>
    obtain ⟨p, o, h1, h2⟩ := hw
    obtain ⟨a', w', h', es', r1, r2, r3, r4⟩ := ih _ es hs h2
    exact ⟨a', w', h', es', by rw [Sem.runT, frozen_of hs h1]; exact r1, r2, r3, r4⟩
  | getObj r k ih =>
    obtain ⟨p, o, h1, h2, h3⟩ := hw
    obtain ⟨a', w', h', es', r1, r2, r3, r4⟩ := ih _ (es.push ⟨.obj r, false, o.isChan⟩) hs h3
    refine ⟨a', w', h', #[⟨.obj r, false, o.isChan⟩] ++ es', ?_, r2, ?_, r4⟩
    · rw [Sem.runT, hs _ _ _ h1]
      cases o <;> first | (simp [isCells] at h2; done) | (simp only []; rw [r1]; simp)
    · intro x hx
      rcases Array.mem_append.1 hx with hx | hx
      · simp at hx; subst hx; exact EvOK.upd r2 ⟨p, _, h1, fun e => by cases e⟩
      · exact r3 x hx
  | setObj r o k ih =>
    obtain ⟨o0, h1, h2, h3⟩ := hw
    have hu : Upd h w (h.put r o) { w with heap := w.heap.setIfInBounds r o } := upd_put hs h1 rfl rfl rfl rfl rfl
    obtain ⟨a', w', h', es', r1, r2, r3, r4⟩ := ih (es.push ⟨.obj r, true, o.isChan⟩) hu.sub h3
    refine ⟨a', w', h', #[⟨.obj r, true, o.isChan⟩] ++ es', ?_, hu.trans r2, ?_, r4⟩
    · rw [Sem.runT, hs _ _ _ h1]
      cases o0 <;> first | (simp [isCells] at h2; done) | (simp only []; rw [r1]; simp)
    · intro x hx
      rcases Array.mem_append.1 hx with hx | hx
      · simp at hx; subst hx; exact EvOK.upd r2 ⟨true, _, by simp [LH.put]; rfl, fun _ => rfl⟩
      · exact r3 x hx
  | choose q k ih =>
    by_cases hq : q.forced = true
    · obtain ⟨a', w', h', es', r1, r2, r3, r4⟩ := ih 0 es hs (hw 0 (by simp [hq]))
      exact ⟨a', w', h', es', by rw [Sem.runT]; simp only [hq, if_true]; exact r1, r2, r3, r4⟩
    · obtain ⟨a', w', h', es', r1, r2, r3, r4⟩ := ih (q.cut (w.tape w.drawn q)) es (upd_draw hs).sub (hw _ (by simp only [hq]; exact ⟨_, rfl⟩))
      exact ⟨a', w', h', es', by rw [Sem.runT]; simp only [hq]; exact r1, (upd_draw hs).trans r2, r3, r4⟩
  | sys c k ih => exact hw.elim
  | program k ih => 
    obtain ⟨a', w', h', es', r1, r2, r3, r4⟩ := ih P es hs hw
    exact ⟨a', w', h', es', by rw [Sem.runT]; exact r1, r2, r3, r4⟩
  | mark m k ih =>
    obtain ⟨a', w', h', es', r1, r2, r3, r4⟩ := ih (es.push ⟨.mark m, false, true⟩) hs hw.2
    refine ⟨a', w', h', #[⟨.mark m, false, true⟩] ++ es', by rw [Sem.runT, r1]; simp, r2, ?_, r4⟩
    intro x hx
    rcases Array.mem_append.1 hx with hx | hx
    · simp at hx; subst hx; exact hw.1
    · exact r3 x hx
  | halt x => exact hw.elim

end Go.Lx
