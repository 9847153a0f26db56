/-
  Lemmas towards the law, proved without conditions of their own: A LOGIC OF ONE GOROUTINE OVER A LOCAL HEAP. What is proved: 'wpE_sound': where the memory-free reading 'wpE' of one operation over a local heap holds, the operation runs so in every world that holds this heap, leaves the rest of memory alone, and lists only accesses to it. No condition; THE LOGIC, SECOND PART: 'Ev': a goroutine comes to Stop, whatever world holds its heap; heaps as lists of chunks; frames by the slots that are known; the rules of control; calls and returns; from there to the kit's 'Calls'.
-/
import Derived.Calls
import Derived.Laws.Sem
namespace Go.Lx
open Go

/-- A local heap: of some blocks, whether they may be written, and what they hold. -/
abbrev LH := Nat → Option (Bool × Obj)

def LH.Sub (h : LH) (w : World) : Prop := ∀ b p o, h b = some (p, o) → w.heap[b]? = some o

def LH.put (h : LH) (b : Nat) (o : Obj) : LH := fun b' => if b' = b then some (true, o) else h b'

def isCells : Obj → Bool
  | .cells .. => true
  | _ => false

def shapeOf : Obj → Option (TypeId × Nat)
  | .cells c T _ => some (T, c.size)
  | _ => none

def frozenOf : Obj → Addr → Bool
  | .cells _ _ (lo, hi), a => lo ≤ a.off && a.off < hi
  | _, _ => false

def oneC : Value → Bool
  | .agg _ | .tuple _ => false
  | _ => true

def okMark : Mark → Bool
  | .extern _ => true
  | .noRoom => true
  | _ => false

def wpE (P : Program) {α : Type} : Sem α → (α → LH → Prop) → LH → Prop
  | .pure a, Q, h => Q a h
  | .load _ a k, Q, h => ∃ p c T fz v, h a.block = some (p, .cells c T fz) ∧ a.spot = none ∧ c[a.off]? = some v ∧ wpE P (k v) Q h
  | .store _ a v k, Q, h => oneC v = true ∧ ∃ c T fz v0, h a.block = some (true, .cells c T fz) ∧ a.spot = none ∧ c[a.off]? = some v0 ∧
      frozenOf (.cells c T fz) a = false ∧ wpE P k Q (h.put a.block (.cells (c.setIfInBounds a.off v) T fz))
  | .new o k, Q, h => ∀ b, h b = none → wpE P (k b) Q (h.put b o)
  | .shape r k, Q, h => ∃ p o, h r = some (p, o) ∧ wpE P (k (shapeOf o)) Q h
  | .freeze _ _ _, _, _ => False
  | .frozen a k, Q, h => ∃ p o, h a.block = some (p, o) ∧ wpE P (k (frozenOf o a)) Q h
  | .getObj r k, Q, h => ∃ p o, h r = some (p, o) ∧ isCells o = false ∧ wpE P (k o) Q h
  | .setObj r o k, Q, h => ∃ o0, h r = some (true, o0) ∧ isCells o0 = false ∧ wpE P k Q (h.put r o)
  | .choose q k, Q, h => ∀ n, (if q.forced then n = 0 else ∃ t, n = q.cut t) → wpE P (k n) Q h
  | .sys _ _, _, _ => False
  | .program k, Q, h => wpE P (k P) Q h
  | .mark m k, Q, h => okMark m = true ∧ wpE P k Q h
  | .halt _, _, _ => False

theorem wpE_bind {P : Program} {α β : Type} (e : Sem α) (f : α → Sem β) (Q : β → LH → Prop) (h : LH) :
    wpE P (e.bind f) Q h ↔ wpE P e (fun a h' => wpE P (f a) Q h') h := by
  induction e generalizing h with
  | pure a => simp [Sem.bind, wpE]
  | load m a k ih => simp [Sem.bind, wpE, ih]
  | store m a v k ih => simp [Sem.bind, wpE, ih]
  | new o k ih => simp [Sem.bind, wpE, ih]
  | shape r k ih => simp [Sem.bind, wpE, ih]
  | freeze a n k ih => simp [Sem.bind, wpE]
  | frozen a k ih => simp [Sem.bind, wpE, ih]
  | getObj r k ih => simp [Sem.bind, wpE, ih]
  | setObj r o k ih => simp [Sem.bind, wpE, ih]
  | choose q k ih => simp [Sem.bind, wpE, ih]
  | sys c k ih => simp [Sem.bind, wpE]
  | program k ih => simp [Sem.bind, wpE, ih]
  | mark m k ih => simp [Sem.bind, wpE, ih]
  | halt h => simp [Sem.bind, wpE]

@[simp] theorem wpE_bind' {P : Program} {α β : Type} (e : Sem α) (f : α → Sem β) (Q : β → LH → Prop) (h : LH) :
    wpE P (e >>= f) Q h = wpE P e (fun a h' => wpE P (f a) Q h') h := propext (wpE_bind e f Q h)

@[simp] theorem wpE_pure {P : Program} {α : Type} (a : α) (Q : α → LH → Prop) (h : LH) : wpE P (pure a : Sem α) Q h = Q a h := rfl
@[simp] theorem wpE_pure' {P : Program} {α : Type} (a : α) (Q : α → LH → Prop) (h : LH) : wpE P (Sem.pure a) Q h = Q a h := rfl

theorem wpE_mono {P : Program} {α : Type} (e : Sem α) {Q Q' : α → LH → Prop} {h : LH} (hw : wpE P e Q h) (hq : ∀ a h', Q a h' → Q' a h') : wpE P e Q' h := by
  induction e generalizing h with
  | pure a => exact hq _ _ hw
  | load m a k ih => obtain ⟨p, c, T, fz, v, h1, h2, h3, h4⟩ := hw; exact ⟨p, c, T, fz, v, h1, h2, h3, ih _ h4⟩
  | store m a v k ih => obtain ⟨h0, c, T, fz, v0, h1, h2, h3, h4, h5⟩ := hw; exact ⟨h0, c, T, fz, v0, h1, h2, h3, h4, ih h5⟩
  | new o k ih => exact fun b hb => ih _ (hw b hb)
  | shape r k ih => obtain ⟨p, o, h1, h2⟩ := hw; exact ⟨p, o, h1, ih _ h2⟩
  | freeze a n k ih => exact hw.elim
  | frozen a k ih => obtain ⟨p, o, h1, h2⟩ := hw; exact ⟨p, o, h1, ih _ h2⟩
  | getObj r k ih => obtain ⟨p, o, h1, h2, h3⟩ := hw; exact ⟨p, o, h1, h2, ih _ h3⟩
  | setObj r o k ih => obtain ⟨o0, h1, h2, h3⟩ := hw; exact ⟨o0, h1, h2, ih h3⟩
  | choose q k ih => exact fun n hn => ih _ (hw n hn)
  | sys c k ih => exact hw.elim
  | program k ih => exact ih _ hw
  | mark m k ih => exact ⟨hw.1, ih hw.2⟩
  | halt x => exact hw.elim

/-- What one goroutine's steps do to the world, seen from its local heap. -/
structure Upd (h : LH) (w : World) (h' : LH) (w' : World) : Prop where
  sub : h'.Sub w'
  size : w.heap.size ≤ w'.heap.size
  perm : ∀ b p o, h b = some (p, o) → ∃ o', h' b = some (p, o') ∧ (p = false → o' = o)
  new : ∀ b p o, h b = none → h' b = some (p, o) → w.heap.size ≤ b ∧ p = true
  keep : ∀ b, b < w.heap.size → h b = none → w'.heap[b]? = w.heap[b]?
  os : w'.os = w.os
  output : w'.output = w.output
  tape : w'.tape = w.tape
  drawn : w.drawn ≤ w'.drawn

theorem Upd.refl {h : LH} {w : World} (hs : h.Sub w) : Upd h w h w where
  sub := hs
  size := Nat.le_refl _
  perm := fun b p o e => ⟨o, e, fun _ => rfl⟩
  new := fun b p o e e' => by rw [e] at e'; cases e'
  keep := fun _ _ _ => rfl
  os := rfl
  output := rfl
  tape := rfl
  drawn := Nat.le_refl _

theorem Upd.trans {h h' h'' : LH} {w w' w'' : World} (a : Upd h w h' w') (b : Upd h' w' h'' w'') : Upd h w h'' w'' where
  sub := b.sub
  size := Nat.le_trans a.size b.size
  perm := fun x p o e => by
    obtain ⟨o1, e1, q1⟩ := a.perm x p o e
    obtain ⟨o2, e2, q2⟩ := b.perm x p o1 e1
    exact ⟨o2, e2, fun hp => (q2 hp).trans (q1 hp)⟩
  new := fun x p o e e2 => by
    cases e1 : h' x with
    | none => exact ⟨Nat.le_trans a.size (b.new x p o e1 e2).1, (b.new x p o e1 e2).2⟩
    | some po =>
      obtain ⟨p1, o1⟩ := po
      obtain ⟨l, hp⟩ := a.new x p1 o1 e e1
      obtain ⟨o3, e3, _⟩ := b.perm x p1 o1 e1
      rw [e2] at e3; cases e3
      exact ⟨l, hp⟩
  keep := fun x hx e => by
    cases e1 : h' x with
    | none => rw [b.keep x (Nat.lt_of_lt_of_le hx a.size) e1, a.keep x hx e]
    | some po => obtain ⟨p1, o1⟩ := po; exact absurd hx (Nat.not_lt.2 (a.new x p1 o1 e e1).1)
  os := b.os.trans a.os
  output := b.output.trans a.output
  tape := b.tape.trans a.tape
  drawn := Nat.le_trans a.drawn b.drawn

/-- An access that a step lists: of a block of the heap that it leaves; a write: of one that may be written. -/
def EvOK (h : LH) (e : Event) : Prop :=
  match e.loc with
  | .cell a => ∃ p o, h a.block = some (p, o) ∧ (e.write = true → p = true)
  | .obj r => ∃ p o, h r = some (p, o) ∧ (e.write = true → p = true)
  | .mark m => okMark m = true
  | _ => False

theorem EvOK.upd {h h' : LH} {w w' : World} {e : Event} (u : Upd h w h' w') (k : EvOK h e) : EvOK h' e := by
  unfold EvOK at *
  split
  · rename_i a hl; rw [hl] at k; obtain ⟨p, o, h1, h2⟩ := k; obtain ⟨o', h3, _⟩ := u.perm _ _ _ h1; exact ⟨p, o', h3, h2⟩
  · rename_i a hl; rw [hl] at k; obtain ⟨p, o, h1, h2⟩ := k; obtain ⟨o', h3, _⟩ := u.perm _ _ _ h1; exact ⟨p, o', h3, h2⟩
  · rename_i m hl; rw [hl] at k; exact k
  · rename_i l h1 h2 h3; revert k; split
    · rename_i a hl; exact fun _ => absurd hl (h1 _)
    · rename_i a hl; exact fun _ => absurd hl (h2 _)
    · rename_i a hl; exact fun _ => absurd hl (h3 _)
    · exact id

theorem lt_of_heap {w : World} {b : Nat} {o : Obj} (h : w.heap[b]? = some o) : b < w.heap.size := by
  rcases Nat.lt_or_ge b w.heap.size with hl | hl
  · exact hl
  · simp [Array.getElem?_eq_none hl] at h

theorem upd_put {h : LH} {w w' : World} {b : Nat} {o o0 : Obj} (hs : h.Sub w) (hb : h b = some (true, o0))
    (hw : w'.heap = w.heap.setIfInBounds b o) (e1 : w'.os = w.os) (e2 : w'.output = w.output) (e3 : w'.tape = w.tape) (e4 : w'.drawn = w.drawn) : Upd h w (h.put b o) w' := by
  have hl := lt_of_heap (hs _ _ _ hb)
  refine ⟨?_, by rw [hw]; simp, ?_, ?_, ?_, e1, e2, e3, by omega⟩
  · intro x p o' hx
    unfold LH.put at hx
    rw [hw]
    split at hx
    · subst_vars; cases hx; simp [hl]
    · rename_i hne; rw [Array.getElem?_setIfInBounds_ne (fun e => hne e.symm)]; exact hs _ _ _ hx
  · intro x p o' hx
    by_cases e : x = b
    · subst e; rw [hb] at hx; cases hx; exact ⟨o, by simp [LH.put], fun e => by cases e⟩
    · exact ⟨o', by simp [LH.put, e, hx], fun _ => rfl⟩
  · intro x p o' hx hx'
    unfold LH.put at hx'
    split at hx'
    · subst_vars; rw [hb] at hx; cases hx
    · rw [hx] at hx'; cases hx'
  · intro x hx hn
    rw [hw, Array.getElem?_setIfInBounds_ne]
    intro e; subst e; rw [hb] at hn; cases hn

theorem upd_new {h : LH} {w : World} {o : Obj} (hs : h.Sub w) : h w.heap.size = none ∧ Upd h w (h.put w.heap.size o) { w with heap := w.heap.push o } := by
  have hn : h w.heap.size = none := by
    cases e : h w.heap.size with
    | none => rfl
    | some po => obtain ⟨p, o'⟩ := po; have := lt_of_heap (hs _ _ _ e); omega
  refine ⟨hn, ?_, by simp, ?_, ?_, ?_, rfl, rfl, rfl, Nat.le_refl _⟩
  · intro x p o' hx
    unfold LH.put at hx
    split at hx
    · subst_vars; cases hx; simp
    · have h1 := hs _ _ _ hx; have h2 := lt_of_heap h1; show (w.heap.push o)[x]? = _; rw [Array.getElem?_push_lt h2]; rw [Array.getElem?_eq_getElem h2] at h1; exact h1
  · intro x p o' hx
    refine ⟨o', ?_, fun _ => rfl⟩
    unfold LH.put; split
    · subst_vars; rw [hn] at hx; cases hx
    · exact hx
  · intro x p o' hx hx'
    unfold LH.put at hx'
    split at hx'
    · subst_vars; cases hx'; exact ⟨Nat.le_refl _, rfl⟩
    · rw [hx] at hx'; cases hx'
  · intro x hx _; show (w.heap.push o)[x]? = _; rw [Array.getElem?_push_lt hx, Array.getElem?_eq_getElem hx]

theorem upd_draw {h : LH} {w : World} (hs : h.Sub w) : Upd h w h { w with drawn := w.drawn + 1 } :=
  ⟨hs, Nat.le_refl _, fun _ _ o e => ⟨o, e, fun _ => rfl⟩, (fun _ _ _ e e' => by rw [e] at e'; cases e'), fun _ _ _ => rfl, rfl, rfl, rfl, Nat.le_succ _⟩

theorem cell_of {h : LH} {w : World} (hs : h.Sub w) {a : Addr} {p : Bool} {c : Array Value} {T : TypeId} {fz : Nat × Nat} {v : Value}
    (h1 : h a.block = some (p, .cells c T fz)) (h2 : a.spot = none) (h3 : c[a.off]? = some v) : w.cell? a = some v := by
  simp [World.cell?, hs _ _ _ h1, h2, h3]

theorem frozen_of {h : LH} {w : World} (hs : h.Sub w) {a : Addr} {p : Bool} {o : Obj}
    (h1 : h a.block = some (p, o)) : w.frozen? a = frozenOf o a := by
  cases o <;> simp [World.frozen?, hs _ _ _ h1, frozenOf]

theorem wpE_sound {P : Program} {α : Type} (e : Sem α) {Q : α → LH → Prop} {h : LH} {w : World} (es : Array Event) (hs : h.Sub w) (hw : wpE P e Q h) :
    ∃ a w' h' es', e.runT P w es = (.ok a w', es ++ es') ∧ Upd h w h' w' ∧ (∀ x ∈ es', EvOK h' x) ∧ Q a h' := by
  induction e generalizing h w es with
  | pure a => exact ⟨a, w, h, #[], by simp [Sem.runT], .refl hs, by simp, hw⟩
  | load m a k ih =>
    obtain ⟨p, c, T, fz, v, h1, h2, h3, h4⟩ := hw
    obtain ⟨a', w', h', es', r1, r2, r3, r4⟩ := ih v (es.push ⟨.cell a, false, m == .atomic⟩) hs h4
    refine ⟨a', w', h', #[⟨.cell a, false, m == .atomic⟩] ++ es', ?_, r2, ?_, r4⟩
    · rw [Sem.runT, cell_of hs h1 h2 h3]; simp only []; rw [r1]; simp
    · intro x hx
      rcases Array.mem_append.1 hx with hx | hx
      · simp at hx; subst hx; exact EvOK.upd r2 ⟨p, _, h1, fun e => by cases e⟩
      · exact r3 x hx
  | store m a v k ih =>
    obtain ⟨h0, c, T, fz, v0, h1, h2, h3, h4, h5⟩ := hw
    have hfz := frozen_of hs h1
    rw [h4] at hfz
    have hu : Upd h w (h.put a.block (.cells (c.setIfInBounds a.off v) T fz)) (w.setCell a v) := by
      refine upd_put hs h1 ?_ rfl rfl rfl rfl
      have hl := lt_of_heap (hs _ _ _ h1)
      have hg : w.heap[a.block] = .cells c T fz := by have := hs _ _ _ h1; rw [Array.getElem?_eq_getElem hl] at this; exact Option.some.inj this
      apply Array.ext
      · simp [World.setCell]
      · intro i hi1 hi2
        simp only [World.setCell, Array.getElem_modify]
        by_cases e : a.block = i
        · subst e; simp [hg, h2]
        · rw [if_neg e, Array.getElem_setIfInBounds_ne _ e]
    obtain ⟨a', w', h', es', r1, r2, r3, r4⟩ := ih (es.push ⟨.cell a, true, m == .atomic⟩) hu.sub h5
    refine ⟨a', w', h', #[⟨.cell a, true, m == .atomic⟩] ++ es', ?_, hu.trans r2, ?_, r4⟩
    · have hr : (Sem.store m a v k).runT P w es = k.runT P (w.setCell a v) (es.push ⟨.cell a, true, m == .atomic⟩) := by
        cases v <;> first | (simp [oneC] at h0; done) | simp [Sem.runT, cell_of hs h1 h2 h3, hfz]
      rw [hr, r1]; simp
    · intro x hx
      rcases Array.mem_append.1 hx with hx | hx
      · simp at hx; subst hx; exact EvOK.upd r2 ⟨true, _, by simp [LH.put]; rfl, fun _ => rfl⟩
      · exact r3 x hx
  | new o k ih =>
    obtain ⟨hn, hu⟩ := upd_new (o := o) hs
    obtain ⟨a', w', h', es', r1, r2, r3, r4⟩ := ih _ es hu.sub (hw _ hn)
    exact ⟨a', w', h', es', by rw [Sem.runT]; exact r1, hu.trans r2, r3, r4⟩
  | shape r k ih =>
    obtain ⟨p, o, h1, h2⟩ := hw
    have e : w.shape? r = shapeOf o := by cases o <;> simp [World.shape?, hs _ _ _ h1, shapeOf]
    obtain ⟨a', w', h', es', r1, r2, r3, r4⟩ := ih _ es hs h2
    exact ⟨a', w', h', es', by rw [Sem.runT, e]; exact r1, r2, r3, r4⟩
  | freeze a n k ih => exact hw.elim
  | frozen a k ih =>
    obtain ⟨p, o, h1, h2⟩ := hw
    obtain ⟨a', w', h', es', r1, r2, r3, r4⟩ := ih _ es hs h2
    exact ⟨a', w', h', es', by rw [Sem.runT, frozen_of hs h1]; exact r1, r2, r3, r4⟩
  | getObj r k ih =>
    obtain ⟨p, o, h1, h2, h3⟩ := hw
    obtain ⟨a', w', h', es', r1, r2, r3, r4⟩ := ih _ (es.push ⟨.obj r, false, o.isChan⟩) hs h3
    refine ⟨a', w', h', #[⟨.obj r, false, o.isChan⟩] ++ es', ?_, r2, ?_, r4⟩
    · rw [Sem.runT, hs _ _ _ h1]
      cases o <;> first | (simp [isCells] at h2; done) | (simp only []; rw [r1]; simp)
    · intro x hx
      rcases Array.mem_append.1 hx with hx | hx
      · simp at hx; subst hx; exact EvOK.upd r2 ⟨p, _, h1, fun e => by cases e⟩
      · exact r3 x hx
  | setObj r o k ih =>
    obtain ⟨o0, h1, h2, h3⟩ := hw
    have hu : Upd h w (h.put r o) { w with heap := w.heap.setIfInBounds r o } := upd_put hs h1 rfl rfl rfl rfl rfl
    obtain ⟨a', w', h', es', r1, r2, r3, r4⟩ := ih (es.push ⟨.obj r, true, o.isChan⟩) hu.sub h3
    refine ⟨a', w', h', #[⟨.obj r, true, o.isChan⟩] ++ es', ?_, hu.trans r2, ?_, r4⟩
    · rw [Sem.runT, hs _ _ _ h1]
      cases o0 <;> first | (simp [isCells] at h2; done) | (simp only []; rw [r1]; simp)
    · intro x hx
      rcases Array.mem_append.1 hx with hx | hx
      · simp at hx; subst hx; exact EvOK.upd r2 ⟨true, _, by simp [LH.put]; rfl, fun _ => rfl⟩
      · exact r3 x hx
  | choose q k ih =>
    by_cases hq : q.forced = true
    · obtain ⟨a', w', h', es', r1, r2, r3, r4⟩ := ih 0 es hs (hw 0 (by simp [hq]))
      exact ⟨a', w', h', es', by rw [Sem.runT]; simp only [hq, if_true]; exact r1, r2, r3, r4⟩
    · obtain ⟨a', w', h', es', r1, r2, r3, r4⟩ := ih (q.cut (w.tape w.drawn q)) es (upd_draw hs).sub (hw _ (by simp only [hq]; exact ⟨_, rfl⟩))
      exact ⟨a', w', h', es', by rw [Sem.runT]; simp only [hq]; exact r1, (upd_draw hs).trans r2, r3, r4⟩
  | sys c k ih => exact hw.elim
  | program k ih => 
    obtain ⟨a', w', h', es', r1, r2, r3, r4⟩ := ih P es hs hw
    exact ⟨a', w', h', es', by rw [Sem.runT]; exact r1, r2, r3, r4⟩
  | mark m k ih =>
    obtain ⟨a', w', h', es', r1, r2, r3, r4⟩ := ih (es.push ⟨.mark m, false, true⟩) hs hw.2
    refine ⟨a', w', h', #[⟨.mark m, false, true⟩] ++ es', by rw [Sem.runT, r1]; simp, r2, ?_, r4⟩
    intro x hx
    rcases Array.mem_append.1 hx with hx | hx
    · simp at hx; subst hx; exact hw.1
    · exact r3 x hx
  | halt x => exact hw.elim

end Go.Lx

namespace Go.Lx
open Go

def gor (f : Frame) (cs : List Frame) : Goroutine := { frame := f, callers := cs, status := .running, dying := none }

/-- A heap that says less: fewer blocks, or without the right to write. -/
def LH.Le (h0 h : LH) : Prop := ∀ b p o, h0 b = some (p, o) → ∃ p', h b = some (p', o) ∧ (p = true → p' = true)

theorem LH.Le.refl (h : LH) : h.Le h := fun _ p _ e => ⟨p, e, id⟩
theorem LH.Le.trans {a b c : LH} (x : a.Le b) (y : b.Le c) : a.Le c := fun i p o e => by
  obtain ⟨p1, e1, q1⟩ := x i p o e
  obtain ⟨p2, e2, q2⟩ := y i p1 o e1
  exact ⟨p2, e2, fun k => q2 (q1 k)⟩
theorem LH.Le.sub {a b : LH} {w : World} (x : a.Le b) (hs : b.Sub w) : a.Sub w := fun i p o e => by
  obtain ⟨p1, e1, _⟩ := x i p o e
  exact hs _ _ _ e1

structure Tgt where
  main : Bool
  Stop : Goroutine → LH → Prop
  mono : ∀ g h h', Stop g h → h.Le h' → Stop g h'

def StepOK (P : Program) (main : Bool) (g : Goroutine) (h : LH) (K : Goroutine → LH → Prop) : Prop :=
  ∀ w, h.Sub w → ∃ fr cs w' h' es, stepG P main g w = .go (gor fr cs) w' es ∧ Upd h w h' w' ∧ (∀ x ∈ es, EvOK h' x) ∧ K (gor fr cs) h'

inductive Ev (P : Program) (X : Tgt) : Goroutine → LH → Prop
  | stop {g : Goroutine} {h : LH} : X.Stop g h → Ev P X g h
  | step {g : Goroutine} {h : LH} (K : Goroutine → LH → Prop) : StepOK P X.main g h K → (∀ g' h', K g' h' → Ev P X g' h') → Ev P X g h

theorem Ev.one {P : Program} {X : Tgt} {g : Goroutine} {h : LH} (k : StepOK P X.main g h (Ev P X)) : Ev P X g h := .step _ k fun _ _ e => e

theorem Ev.silent {P : Program} {X : Tgt} {g : Goroutine} {fr : Frame} {cs : List Frame} {h : LH} (k : Ev P X (gor fr cs) h) (hs : ∀ w, stepG P X.main g w = .go (gor fr cs) w #[]) : Ev P X g h :=
  .one fun w hw => ⟨fr, cs, w, h, #[], hs w, .refl hw, by simp, k⟩

theorem Ev.mono {P : Program} {X : Tgt} {g : Goroutine} {h0 h : LH} (e : Ev P X g h0) (le : h0.Le h) : Ev P X g h := by
  induction e generalizing h with
  | stop s => exact .stop (X.mono _ _ _ s le)
  | @step g h0 K hk hn ih =>
    refine .one fun w hw => ?_
    obtain ⟨fr, cs, w', h0', es, e1, u, ev, k⟩ := hk w (le.sub hw)
    let h' : LH := fun b => match h0' b with
      | some (_, o') => some ((match h b with | some (p, _) => p | none => true), o')
      | none => h b
    have hle : h0'.Le h' := by
      intro b p o e
      refine ⟨(match h b with | some (p, _) => p | none => true), by simp only [h', e], fun hp => ?_⟩
      subst hp
      cases e0 : h0 b with
      | some po =>
        obtain ⟨p0, o0⟩ := po
        obtain ⟨o1, e4, _⟩ := u.perm _ _ _ e0
        rw [e] at e4; cases e4
        obtain ⟨p', e5, q5⟩ := le _ _ _ e0
        rw [e5]; exact q5 rfl
      | none =>
        cases e6 : h b with
        | none => rfl
        | some po =>
          obtain ⟨p1, o1⟩ := po
          have := lt_of_heap (hw _ _ _ e6)
          have := (u.new _ _ _ e0 e).1
          omega
    refine ⟨fr, cs, w', h', es, e1, ⟨?_, u.size, ?_, ?_, ?_, u.os, u.output, u.tape, u.drawn⟩, ?_, ih _ h0' k hle⟩
    · intro b p o e
      simp only [h'] at e
      cases e7 : h0' b with
      | some po => obtain ⟨p0, o0⟩ := po; rw [e7] at e; cases e; exact u.sub _ _ _ e7
      | none =>
        rw [e7] at e
        have e8 : h0 b = none := by
          cases e9 : h0 b with
          | none => rfl
          | some po => obtain ⟨p0, o0⟩ := po; obtain ⟨o1, e4, _⟩ := u.perm _ _ _ e9; rw [e7] at e4; cases e4
        rw [u.keep b (lt_of_heap (hw _ _ _ e)) e8]; exact hw _ _ _ e
    · intro b p o e
      cases e7 : h0' b with
      | none => exact ⟨o, by simp only [h', e7]; exact e, fun _ => rfl⟩
      | some po =>
        obtain ⟨p0, o0⟩ := po
        refine ⟨o0, by simp only [h', e7, e], fun hp => ?_⟩
        subst hp
        cases e9 : h0 b with
        | none => have := lt_of_heap (hw _ _ _ e); have := (u.new _ _ _ e9 e7).1; omega
        | some po =>
          obtain ⟨p2, o2⟩ := po
          obtain ⟨o1, e4, q4⟩ := u.perm _ _ _ e9
          rw [e7] at e4; cases e4
          obtain ⟨p', e5, q5⟩ := le _ _ _ e9
          rw [e] at e5; cases e5
          cases p0 with
          | true => cases q5 rfl
          | false => exact q4 rfl
    · intro b p o e e'
      have e8 : h0 b = none := by
        cases e9 : h0 b with
        | none => rfl
        | some po => obtain ⟨p0, o0⟩ := po; obtain ⟨p', e5, _⟩ := le _ _ _ e9; rw [e] at e5; cases e5
      simp only [h', e] at e'
      cases e7 : h0' b with
      | none => rw [e7] at e'; cases e'
      | some po => obtain ⟨p0, o0⟩ := po; rw [e7] at e'; cases e'; exact ⟨(u.new _ _ _ e8 e7).1, rfl⟩
    · intro b hb e
      refine u.keep b hb ?_
      cases e9 : h0 b with
      | none => rfl
      | some po => obtain ⟨p0, o0⟩ := po; obtain ⟨p', e5, _⟩ := le _ _ _ e9; rw [e] at e5; cases e5
    · intro x hx
      have := ev x hx
      unfold EvOK at *
      split
      · rename_i a hl; rw [hl] at this; obtain ⟨p, o, h1, h2⟩ := this; obtain ⟨p', h3, h4⟩ := hle _ _ _ h1; exact ⟨p', o, h3, fun e => h4 (h2 e)⟩
      · rename_i a hl; rw [hl] at this; obtain ⟨p, o, h1, h2⟩ := this; obtain ⟨p', h3, h4⟩ := hle _ _ _ h1; exact ⟨p', o, h3, fun e => h4 (h2 e)⟩
      · rename_i m hl; rw [hl] at this; exact this
      · rename_i l h1 h2 h3; revert this; split
        · rename_i a hl; exact fun _ => absurd hl (h1 _)
        · rename_i a hl; exact fun _ => absurd hl (h2 _)
        · rename_i a hl; exact fun _ => absurd hl (h3 _)
        · exact id

/-! ### Chunks -/

inductive Ch where
  | pt (b : Nat) (p : Bool) (o : Obj)
  | pr (A : LH → Prop)

def Ch.sat : Ch → LH → Prop
  | .pt b p o, h => h b = some (p, o)
  | .pr A, h => A h

def Join (h1 h2 h : LH) : Prop := ∀ b, (h1 b = none ∧ h b = h2 b) ∨ (h2 b = none ∧ h b = h1 b) ∨ (∃ o, h1 b = some (false, o) ∧ h2 b = some (false, o) ∧ h b = some (false, o))

theorem Join.comm {h1 h2 h : LH} (j : Join h1 h2 h) : Join h2 h1 h := fun b => by
  rcases j b with x | x | ⟨o, x, y, z⟩
  · exact .inr (.inl x)
  · exact .inl x
  · exact .inr (.inr ⟨o, y, x, z⟩)

/-- (h1 with h2) with h3 is h1 with (h2 with h3). -/
theorem Join.assoc {h1 h2 h3 h12 h : LH} (j : Join h1 h2 h12) (k : Join h12 h3 h) : ∃ h23, Join h2 h3 h23 ∧ Join h1 h23 h := by
  refine ⟨fun b => match h2 b with | some x => some x | none => h3 b, ?_, ?_⟩
  · intro b
    rcases j b with ⟨x, y⟩ | ⟨x, y⟩ | ⟨o, x, y, z⟩
    · rcases k b with ⟨u, v⟩ | ⟨u, v⟩ | ⟨o, u, v, w⟩
      · left; rw [y] at u; simp [u]
      · right; left; refine ⟨u, ?_⟩; cases e : h2 b <;> simp [u, e]
      · right; right; refine ⟨o, ?_, v, ?_⟩
        · rw [← y]; exact u
        · rw [y] at u; simp [u]
    · left; simp [x]
    · rcases k b with ⟨u, v⟩ | ⟨u, v⟩ | ⟨o', u, v, w⟩
      · rw [z] at u; cases u
      · right; left; refine ⟨u, ?_⟩; simp [y]
      · rw [z] at u; cases u; right; right; exact ⟨o, y, v, by simp [y]⟩
  · intro b
    rcases j b with ⟨x, y⟩ | ⟨x, y⟩ | ⟨o, x, y, z⟩
    · left; refine ⟨x, ?_⟩
      rcases k b with ⟨u, v⟩ | ⟨u, v⟩ | ⟨o, u, v, w⟩
      · rw [y] at u; simp [u, v]
      · rw [v, y]; cases e : h2 b <;> simp [u, e]
      · rw [y] at u; simp [u, w]
    · rcases k b with ⟨u, v⟩ | ⟨u, v⟩ | ⟨o, u, v, w⟩
      · left; rw [y] at u; simp [u, v, x]
      · right; left; simp [x, u, v, y]
      · right; right; rw [y] at u; exact ⟨o, u, by simp [x, v], w⟩
    · right; right; refine ⟨o, x, by simp [y], ?_⟩
      rcases k b with ⟨u, v⟩ | ⟨u, v⟩ | ⟨o', u, v, w⟩
      · rw [z] at u; cases u
      · rw [v, z]
      · rw [z] at u; cases u; exact w

def Star : List Ch → LH → Prop
  | [], _ => True
  | c :: Γ, h => ∃ h1 h2, Join h1 h2 h ∧ c.sat h1 ∧ Star Γ h2

theorem Star.swap {a b : Ch} {Γ : List Ch} {h : LH} (s : Star (a :: b :: Γ) h) : Star (b :: a :: Γ) h := by
  obtain ⟨h1, h23, j, sa, h2, h3, k, sb, sg⟩ := s
  obtain ⟨h13, x, y⟩ := k.assoc j.comm
  exact ⟨h2, h13, y, sb, h1, h3, x.comm, sa, sg⟩

theorem Star.tail {a : Ch} {Γ Γ' : List Ch} (f : ∀ h, Star Γ h → Star Γ' h) {h : LH} (s : Star (a :: Γ) h) : Star (a :: Γ') h := by
  obtain ⟨h1, h2, j, sa, sg⟩ := s
  exact ⟨h1, h2, j, sa, f _ sg⟩

theorem Star.perm {Γ Γ' : List Ch} (p : Γ.Perm Γ') : ∀ {h : LH}, Star Γ h → Star Γ' h := by
  induction p with
  | nil => exact fun s => s
  | cons a _ ih => exact fun s => Star.tail (fun _ => ih) s
  | swap a b l => exact fun s => s.swap
  | trans _ _ ih1 ih2 => exact fun s => ih2 (ih1 s)

theorem Join.le_left {h1 h2 h : LH} (j : Join h1 h2 h) : h1.Le h := fun b p o e => by
  rcases j b with ⟨x, _⟩ | ⟨_, y⟩ | ⟨o', x, y, z⟩
  · rw [x] at e; cases e
  · exact ⟨p, y.trans e, id⟩
  · rw [x] at e; cases e; exact ⟨false, z, id⟩
theorem Join.le_right {h1 h2 h : LH} (j : Join h1 h2 h) : h2.Le h := j.comm.le_left
theorem Join.get {h1 h2 h : LH} (j : Join h1 h2 h) {b : Nat} {x : Bool × Obj} (e : h1 b = some x) : h b = some x := by
  rcases j b with ⟨x', _⟩ | ⟨_, y⟩ | ⟨o', x', y, z⟩
  · rw [x'] at e; cases e
  · exact y.trans e
  · rw [x'] at e; cases e; exact z

theorem Star.mem {Γ : List Ch} {b : Nat} {p : Bool} {o : Obj} (m : Ch.pt b p o ∈ Γ) : ∀ {h : LH}, Star Γ h → h b = some (p, o) := by
  induction Γ with
  | nil => cases m
  | cons c Γ ih =>
    intro h ⟨h1, h2, j, sa, sg⟩
    rcases List.mem_cons.1 m with e | e
    · subst e; exact j.get sa
    · exact j.comm.get (ih e sg)

theorem Star.put {Γ : List Ch} {b : Nat} {o o' : Obj} {h : LH} (s : Star (.pt b true o :: Γ) h) : Star (.pt b true o' :: Γ) (h.put b o') := by
  obtain ⟨h1, h2, j, sa, sg⟩ := s
  have sa' : h1 b = some (true, o) := sa
  refine ⟨h1.put b o', h2, ?_, by simp [Ch.sat, LH.put], sg⟩
  intro x
  by_cases e : x = b
  · subst e
    rcases j x with ⟨y, _⟩ | ⟨y, _⟩ | ⟨o1, y, _⟩
    · rw [y] at sa'; cases sa'
    · right; left; simp [LH.put, y]
    · rw [y] at sa'; cases sa'
  · simp only [LH.put, e, if_false]; exact j x

theorem Star.new {Γ : List Ch} {b : Nat} {o : Obj} {h : LH} (s : Star Γ h) (hb : h b = none) : Star (.pt b true o :: Γ) (h.put b o) := by
  refine ⟨fun x => if x = b then some (true, o) else none, h, ?_, by simp [Ch.sat], s⟩
  intro x
  by_cases e : x = b
  · subst e; right; left; simp [LH.put, hb]
  · left; simp [LH.put, e]

/-- Behind a step that changes the heap of a chunk (in place, and by new blocks) the rest stands. -/
theorem Star.ro {Γ : List Ch} {b : Nat} {o : Obj} {h : LH} (s : Star (.pt b true o :: Γ) h) : ∃ h', h'.Le h ∧ Star (.pt b false o :: Γ) h' := by
  obtain ⟨h1, h2, j, sa, sg⟩ := s
  have sa' : h1 b = some (true, o) := sa
  refine ⟨fun x => if x = b then some (false, o) else h x, ?_, fun x => if x = b then some (false, o) else h1 x, h2, ?_, by simp [Ch.sat], sg⟩
  · intro x p o' e
    by_cases hx : x = b
    · subst hx; simp at e; obtain ⟨rfl, rfl⟩ := e; exact ⟨true, j.get sa', fun _ => rfl⟩
    · simp [hx] at e; exact ⟨p, e, id⟩
  · intro x
    by_cases e : x = b
    · subst e
      rcases j x with ⟨y, _⟩ | ⟨y, _⟩ | ⟨o1, y, _⟩
      · rw [y] at sa'; cases sa'
      · right; left; simp [y]
      · rw [y] at sa'; cases sa'
    · simp only [e, if_false]; exact j x

theorem Star.dup {Γ : List Ch} {b : Nat} {o : Obj} {h : LH} (s : Star (.pt b false o :: Γ) h) : Star (.pt b false o :: .pt b false o :: Γ) h := by
  have hb := Star.mem (List.mem_cons_self ..) s
  refine ⟨fun x => if x = b then some (false, o) else none, h, ?_, by simp [Ch.sat], s⟩
  intro x
  by_cases e : x = b
  · subst e; right; right; exact ⟨o, by simp, hb, hb⟩
  · left; simp [e]

theorem Star.drop {c : Ch} {Γ : List Ch} {h : LH} (s : Star (c :: Γ) h) : ∃ h', h'.Le h ∧ Star Γ h' := by
  obtain ⟨h1, h2, j, _, sg⟩ := s
  exact ⟨h2, j.le_right, sg⟩

theorem Star.more {Γ : List Ch} : ∀ {h1 h2 h : LH}, Join h1 h2 h → Star Γ h1 → Star Γ h := by
  induction Γ with
  | nil => exact fun _ _ => trivial
  | cons c Γ ih =>
    intro h1 h2 h j ⟨h3, h4, k, sc, sg⟩
    obtain ⟨h42, x, y⟩ := k.assoc j
    exact ⟨h3, h42, y, sc, ih x sg⟩

theorem Star.append {Δ Γ : List Ch} : ∀ {h : LH}, Star (Δ ++ Γ) h ↔ ∃ h1 h2, Join h1 h2 h ∧ Star Δ h1 ∧ Star Γ h2 := by
  induction Δ with
  | nil =>
    intro h
    constructor
    · exact fun s => ⟨fun _ => none, h, fun b => .inl ⟨rfl, rfl⟩, trivial, s⟩
    · rintro ⟨h1, h2, j, _, s⟩
      exact Star.more j.comm s
  | cons c Δ ih =>
    intro h
    constructor
    · rintro ⟨h1, h2, j, sc, s⟩
      obtain ⟨h3, h4, k, s3, s4⟩ := ih.1 s
      obtain ⟨h13, x, y⟩ := k.comm.assoc j.comm
      exact ⟨h13, h4, y.comm, ⟨h1, h3, x.comm, sc, s3⟩, s4⟩
    · rintro ⟨h1, h2, j, ⟨h3, h4, k, sc, s4⟩, s2⟩
      obtain ⟨h42, x, y⟩ := k.assoc j
      exact ⟨h3, h42, y, sc, ih.2 ⟨h4, h2, x, s4, s2⟩⟩

theorem Star.open_ {Δ Γ : List Ch} {h : LH} : Star (.pr (Star Δ) :: Γ) h ↔ Star (Δ ++ Γ) h := Star.append.symm
theorem Star.ex {ι : Sort _} {A : ι → LH → Prop} {Γ : List Ch} {h : LH} : Star (.pr (fun h => ∃ x, A x h) :: Γ) h ↔ ∃ x, Star (.pr (A x) :: Γ) h := by
  constructor
  · rintro ⟨h1, h2, j, ⟨x, a⟩, s⟩; exact ⟨x, h1, h2, j, a, s⟩
  · rintro ⟨x, h1, h2, j, a, s⟩; exact ⟨h1, h2, j, ⟨x, a⟩, s⟩
theorem Star.pure {φ : Prop} {A : LH → Prop} {Γ : List Ch} {h : LH} : Star (.pr (fun h => φ ∧ A h) :: Γ) h ↔ φ ∧ Star (.pr A :: Γ) h := by
  constructor
  · rintro ⟨h1, h2, j, ⟨x, a⟩, s⟩; exact ⟨x, h1, h2, j, a, s⟩
  · rintro ⟨x, h1, h2, j, a, s⟩; exact ⟨h1, h2, j, ⟨x, a⟩, s⟩

/-! ### Frames by what is known of their slots -/

abbrev Env := List (Nat × Value)

def Env.get : Env → Nat → Option Value
  | [], _ => none
  | (i, v) :: E, t => match Nat.beq i t with
    | true => some v
    | false => Env.get E t

def Env.val (E : Env) : Operand → Option Value
  | .tmp t => Env.get E t
  | .const v => some v
  | .global g => some (.pointer (some ⟨g, 0, none⟩))
  | .func f => some (.func (.func f) #[] #[])

structure Tms (n : Nat) (E : Env) (tmps : Array Value) : Prop where
  size : tmps.size = n
  get : ∀ s v, Env.get E s = some v → tmps[s]? = some v

theorem Env.get_cons (i : Nat) (v : Value) (E : Env) (t : Nat) : Env.get ((i, v) :: E) t = if i = t then some v else Env.get E t := by
  rw [Env.get]
  by_cases e : i = t
  · subst e; have : Nat.beq i i = true := Nat.beq_refl i; rw [this, if_pos rfl]
  · have : Nat.beq i t = false := by
      cases h : Nat.beq i t with
      | false => rfl
      | true => exact absurd (Nat.eq_of_beq_eq_true h) e
    rw [this, if_neg e]

theorem Tms.set {n : Nat} {E : Env} {tmps : Array Value} (t : Tms n E tmps) {d : Nat} (hd : d < n) (v : Value) : Tms n ((d, v) :: E) (tmps.setIfInBounds d v) where
  size := by rw [Array.size_setIfInBounds, t.size]
  get := fun s x hx => by
    rw [Env.get_cons] at hx
    split at hx
    · subst_vars; cases hx; exact Array.getElem?_setIfInBounds_self_of_lt (by rw [t.size]; exact hd)
    · rename_i hne; rw [Array.getElem?_setIfInBounds_ne hne]; exact t.get s x hx

/-- E' knows no more than E. -/
def Sup (E : Env) : Env → Prop
  | [] => True
  | (i, v) :: E' => Env.get E i = some v ∧ Sup E E'

theorem Sup.get {E E' : Env} (s : Sup E E') : ∀ i v, Env.get E' i = some v → Env.get E i = some v := by
  induction E' with
  | nil => intro i v e; cases e
  | cons p E' ih =>
    obtain ⟨j, u⟩ := p
    intro i v e
    rw [Env.get_cons] at e
    split at e
    · subst_vars; cases e; exact s.1
    · exact ih s.2 i v e

theorem Tms.sup {n : Nat} {E E' : Env} {tmps : Array Value} (t : Tms n E tmps) (s : Sup E E') : Tms n E' tmps := ⟨t.size, fun i v e => t.get i v (s.get i v e)⟩

structure Base where
  fn : FuncId
  kind : CallKind
  ro : Option Nat
  defers : List Deferred

def Base.fr (b : Base) (tmps : Array Value) (todo : List Item) : Frame :=
  { fn := b.fn, tmps, todo, defers := b.defers, mode := .run, kind := b.kind, roundOf := b.ro }

def Ex (P : Program) (X : Tgt) (b : Base) (n : Nat) (E : Env) (todo : List Item) (cs : List Frame) (Γ : List Ch) : Prop :=
  ∀ tmps h, Tms n E tmps → Star Γ h → Ev P X (gor (b.fr tmps todo) cs) h

section
variable {P : Program} {X : Tgt} {b : Base} {n : Nat} {E : Env} {k : List Item} {cs : List Frame} {Γ : List Ch}

theorem Ex.sup {E' : Env} (e : Ex P X b n E' k cs Γ) (s : Sup E E') : Ex P X b n E k cs Γ := fun tmps h t st => e tmps h (t.sup s) st
theorem Ex.star {Γ' : List Ch} (e : Ex P X b n E k cs Γ') (s : ∀ h, Star Γ h → Star Γ' h) : Ex P X b n E k cs Γ := fun tmps h t st => e tmps h t (s h st)
theorem Ex.starLe {Γ' : List Ch} (e : Ex P X b n E k cs Γ') (s : ∀ h, Star Γ h → ∃ h', h'.Le h ∧ Star Γ' h') : Ex P X b n E k cs Γ := fun tmps h t st =>
  let ⟨h', le, s'⟩ := s h st; (e tmps h' t s').mono le
theorem Ex.ro {b' : Nat} {o : Obj} (e : Ex P X b n E k cs (.pt b' false o :: Γ)) : Ex P X b n E k cs (.pt b' true o :: Γ) := e.starLe fun _ s => s.ro
theorem Ex.dup {b' : Nat} {o : Obj} (e : Ex P X b n E k cs (.pt b' false o :: .pt b' false o :: Γ)) : Ex P X b n E k cs (.pt b' false o :: Γ) := e.star fun _ s => s.dup
theorem Ex.drop {c : Ch} (e : Ex P X b n E k cs Γ) : Ex P X b n E k cs (c :: Γ) := e.starLe fun _ s => s.drop
theorem Ex.perm {Γ' : List Ch} (p : Γ.Perm Γ') (e : Ex P X b n E k cs Γ') : Ex P X b n E k cs Γ := e.star fun _ s => s.perm p

theorem ex_skip (e : Ex P X b n E k cs Γ) : Ex P X b n E (.code .skip :: k) cs Γ := fun tmps h t s =>
  (e tmps h t s).silent (fun w => by simp [stepG, stepG.exec, gor, Base.fr])
theorem ex_label {l : Nat} (e : Ex P X b n E k cs Γ) : Ex P X b n E (.code (.label l) :: k) cs Γ := fun tmps h t s =>
  (e tmps h t s).silent (fun w => by simp [stepG, stepG.exec, gor, Base.fr])
theorem ex_inBlock {id : Nat} (e : Ex P X b n E k cs Γ) : Ex P X b n E (.inBlock id :: k) cs Γ := fun tmps h t s =>
  (e tmps h t s).silent (fun w => by simp [stepG, stepG.exec, gor, Base.fr])
theorem ex_seq {x y : Code} (e : Ex P X b n E (.code x :: .code y :: k) cs Γ) : Ex P X b n E (.code (.seq x y) :: k) cs Γ := fun tmps h t s =>
  (e tmps h t s).silent (fun w => by simp [stepG, stepG.exec, gor, Base.fr])
theorem ex_block {id : Nat} {c : Code} (e : Ex P X b n E (.code c :: .inBlock id :: k) cs Γ) : Ex P X b n E (.code (.block id c) :: k) cs Γ := fun tmps h t s =>
  (e tmps h t s).silent (fun w => by simp [stepG, stepG.exec, gor, Base.fr])
theorem ex_loop {c : Code} (e : Ex P X b n E (.code c :: .inLoop c :: k) cs Γ) : Ex P X b n E (.code (.loop c) :: k) cs Γ := fun tmps h t s =>
  (e tmps h t s).silent (fun w => by simp [stepG, stepG.exec, gor, Base.fr])
theorem ex_inLoop {c : Code} (e : Ex P X b n E (.code c :: .inLoop c :: k) cs Γ) : Ex P X b n E (.inLoop c :: k) cs Γ := fun tmps h t s =>
  (e tmps h t s).silent (fun w => by simp [stepG, stepG.exec, gor, Base.fr])
theorem ex_exit {id : Nat} {k' : List Item} (hk : exitTo id k = some k') (e : Ex P X b n E k' cs Γ) : Ex P X b n E (.code (.exit id) :: k) cs Γ := fun tmps h t s =>
  (e tmps h t s).silent (fun w => by simp [stepG, stepG.exec, gor, Base.fr, hk])

theorem Env.eval_of {n : Nat} {E : Env} {tmps : Array Value} (t : Tms n E tmps) {b : Base} {k : List Item} {x : Operand} {v : Value} (h : Env.val E x = some v) : (b.fr tmps k).eval x = v := by
  cases x with
  | tmp s =>
    have := t.get s v h
    simp [Frame.eval, Base.fr, Array.getD_eq_getD_getElem?, this]
  | const c => cases h; rfl
  | global g => cases h; rfl
  | func f => cases h; rfl

theorem ex_cond {c : Operand} {x y : Code} {t : Bool} (hc : Env.val E c = some (.bool t)) (e : Ex P X b n E (.code (if t then x else y) :: k) cs Γ) :
    Ex P X b n E (.code (.cond c x y) :: k) cs Γ := fun tmps h tm s =>
  (e tmps h tm s).silent (fun w => by
    have := Env.eval_of tm (b := b) (k := .code (.cond c x y) :: k) hc
    simp only [Base.fr] at this
    simp [stepG, stepG.exec, gor, Base.fr, this])
theorem ex_cond_true {c : Operand} {x y : Code} (hc : Env.val E c = some (.bool true)) (e : Ex P X b n E (.code x :: k) cs Γ) : Ex P X b n E (.code (.cond c x y) :: k) cs Γ := ex_cond hc e
theorem ex_cond_false {c : Operand} {x y : Code} (hc : Env.val E c = some (.bool false)) (e : Ex P X b n E (.code y :: k) cs Γ) : Ex P X b n E (.code (.cond c x y) :: k) cs Γ := ex_cond hc e
theorem ex_cond_split {c : Operand} {x y : Code} {t : Bool} (hc : Env.val E c = some (.bool t)) (e1 : t = true → Ex P X b n E (.code x :: k) cs Γ) (e2 : t = false → Ex P X b n E (.code y :: k) cs Γ) :
    Ex P X b n E (.code (.cond c x y) :: k) cs Γ := by
  cases t with
  | true => exact ex_cond hc (e1 rfl)
  | false => exact ex_cond hc (e2 rfl)

end

/-! ### Returns and calls -/

/-- A frame of f that returns v. -/
structure Retd (P : Program) (f : FuncId) (v : Value) (Γ : List Ch) (fr : Frame) : Prop where
  fn : fr.fn = f
  mode : fr.mode = .returning
  defers : fr.defers = []
  kind : fr.kind = .normal
  res : ∃ fn, P.funcs[f]? = some fn ∧ ∀ h, Star Γ h → wpE P (results fn fr.tmps) (fun v' h' => v' = v ∧ h' = h) h

/-- A call of f from a heap of Γ returns; φ says of the result and the heap. -/
def CallsX (P : Program) (f : FuncId) (args : Array Value) (Γ : List Ch) (φ : Value → List Ch → Prop) : Prop :=
  ∀ (X : Tgt) (cs : List Frame) (h : LH), Star Γ h →
    (∀ fr v Γ' h', φ v Γ' → Retd P f v Γ' fr → Star Γ' h' → Ev P X (gor fr cs) h') → Ev P X (gor (Frame.enter P f args .normal) cs) h

/-- The same, for one target. -/
def CallsA (P : Program) (X : Tgt) (f : FuncId) (args : Array Value) (Γ : List Ch) (φ : Value → List Ch → Prop) : Prop :=
  ∀ (cs : List Frame) (h : LH), Star Γ h →
    (∀ fr v Γ' h', φ v Γ' → Retd P f v Γ' fr → Star Γ' h' → Ev P X (gor fr cs) h') → Ev P X (gor (Frame.enter P f args .normal) cs) h

theorem mem_seen {P : Program} {fn : FuncId} {es : Array Event} {x : Event} (h : x ∈ seen P fn es) : x ∈ es := by
  unfold seen at h
  simp only [← Array.foldl_toList] at h
  have key : ∀ (l : List Event) (q : Bool) (kept : Array Event), x ∈ (l.foldl (fun (s : Bool × Array Event) e =>
      match e.loc with
      | .mark (.extern f) => ((P.funcs[f]?).any (·.norace), s.2)
      | _ => (s.1, if s.1 && !e.sync then s.2 else s.2.push e)) (q, kept)).2 → x ∈ kept ∨ x ∈ l := by
    intro l
    induction l with
    | nil => intro q kept h; exact .inl h
    | cons e l ih =>
      intro q kept h
      simp only [List.foldl_cons] at h
      split at h
      · rcases ih _ _ h with y | y
        · exact .inl y
        · exact .inr (List.mem_cons_of_mem _ y)
      · rcases ih _ _ h with y | y
        · split at y
          · exact .inl y
          · rcases Array.mem_push.1 y with z | z
            · exact .inl z
            · subst z; exact .inr (List.mem_cons_self ..)
        · exact .inr (List.mem_cons_of_mem _ y)
  rcases key es.toList _ _ h with y | y
  · simp at y
  · exact Array.mem_toList_iff.1 y

theorem ev_return {P : Program} {X : Tgt} {f : FuncId} {v : Value} {Γ : List Ch} {fr c : Frame} {cs : List Frame} {h : LH} (r : Retd P f v Γ fr) (s : Star Γ h)
    (e : Ev P X (gor (c.finish v) cs) h) : Ev P X (gor fr (c :: cs)) h := by
  obtain ⟨h1, h2, h3, h4, fn, h5, h6⟩ := r
  refine .one fun w hw => ?_
  obtain ⟨v', w', h', es', r1, r2, r3, rfl, rfl⟩ := wpE_sound (results fn fr.tmps) #[] hw (h6 h s)
  refine ⟨c.finish v', cs, w', h', seen P fr.fn (#[] ++ es'), ?_, r2, fun x hx => r3 x (by simpa using mem_seen hx), e⟩
  subst h1
  have h5' := h5
  simp only [gor, stepG, h2, unwind, h3, h5', doReturn, h4]
  rw [r1]
  simp [GStep.after]

/-- The result of a return, off the slots that are known. -/
def resV (E : Env) : List ResultVar → Option (List Value)
  | [] => some []
  | .tmp t :: l => match Env.get E t, resV E l with
    | some v, some vs => some (v :: vs)
    | _, _ => none
  | .cell _ _ :: _ => none

def packV : List Value → Value
  | [v] => v
  | vs => .tuple vs.toArray

theorem wpE_mapM_tmp {P : Program} {tmps : Array Value} {n : Nat} {E : Env} (t : Tms n E tmps) {Q : List Value → LH → Prop} {h : LH} : ∀ (l : List ResultVar) (vs : List Value), resV E l = some vs →
    Q vs h → wpE P (l.mapM (m := Sem) fun | .tmp t => pure (tmps.getD t undef) | .cell a t => do loadVar t (← asAddr (tmps.getD a undef))) Q h := by
  intro l
  induction l generalizing Q with
  | nil => intro vs e q; cases e; exact q
  | cons r l ih =>
    intro vs e q
    cases r with
    | cell a t => cases e
    | tmp s =>
      simp only [resV] at e
      split at e
      · rename_i v vs' e1 e2
        cases e
        rw [List.mapM_cons]
        have hv := t.get s v e1
        have hv' : tmps.getD s undef = v := by simp [Array.getD_eq_getD_getElem?, hv]
        simp only [wpE_bind', wpE_pure, hv']
        exact ih (Q := fun l h' => Q (v :: l) h') vs' e2 q
      · cases e

theorem results_tmp {P : Program} {fn : Func} {tmps : Array Value} {n : Nat} {E : Env} (t : Tms n E tmps) {vs : List Value} (e : resV E fn.results.toList = some vs) (h : LH) :
    wpE P (results fn tmps) (fun v' h' => v' = packV vs ∧ h' = h) h := by
  unfold results
  rw [← Array.toArray_toList (xs := fn.results), List.mapM_toArray]
  simp only [wpE_bind', map_eq_pure_bind, bind_assoc, pure_bind, wpE_pure]
  refine wpE_mapM_tmp t _ vs e ⟨?_, rfl⟩
  match vs with
  | [] => rfl
  | [v] => rfl
  | v :: u :: vs => rfl

section
variable {P : Program} {X : Tgt} {b : Base} {n : Nat} {E : Env} {k : List Item} {cs : List Frame} {Γ : List Ch}

/-- 'return' where the results are slots. -/
theorem ex_ret {fn : Func} {vs : List Value} (hf : P.funcs[b.fn]? = some fn) (hk : b.kind = .normal) (hd : b.defers = []) (hr : b.ro = none) (hv : resV E fn.results.toList = some vs)
    (e : ∀ fr h, Retd P b.fn (packV vs) Γ fr → Star Γ h → Ev P X (gor fr cs) h) : Ex P X b n E (.code .ret :: k) cs Γ := fun tmps h t s => by
  refine (e { b.fr tmps (.code .ret :: k) with mode := .returning } h ⟨rfl, rfl, hd, hk, fn, hf, fun h' _ => results_tmp t hv h'⟩ s).silent (fun w => ?_)
  simp [stepG, stepG.exec, gor, Base.fr, hr]

/-- The same, in a contract's proof. -/
theorem ex_retc {φ : Value → List Ch → Prop} {fn : Func} {vs : List Value} (ret : ∀ fr v Γ' h', φ v Γ' → Retd P b.fn v Γ' fr → Star Γ' h' → Ev P X (gor fr cs) h') (hf : P.funcs[b.fn]? = some fn) (hv : resV E fn.results.toList = some vs)
    (e : φ (packV vs) Γ) (hk : b.kind = .normal := by rfl) (hd : b.defers = [] := by rfl) (hr : b.ro = none := by rfl) : Ex P X b n E (.code .ret :: k) cs Γ :=
  ex_ret hf hk hd hr hv fun fr h' hr hs => ret fr _ _ h' e hr hs

theorem ex_end {fn : Func} {vs : List Value} (hf : P.funcs[b.fn]? = some fn) (hk : b.kind = .normal) (hd : b.defers = []) (hr : b.ro = none) (hv : resV E fn.results.toList = some vs)
    (e : ∀ fr h, Retd P b.fn (packV vs) Γ fr → Star Γ h → Ev P X (gor fr cs) h) : Ex P X b n E [] cs Γ := fun tmps h t s => by
  refine (e { b.fr tmps [] with mode := .returning } h ⟨rfl, rfl, hd, hk, fn, hf, fun h' _ => results_tmp t hv h'⟩ s).silent (fun w => ?_)
  simp [stepG, stepG.exec, gor, Base.fr, hr]

/-- The same, in a contract's proof. -/
theorem ex_endc {φ : Value → List Ch → Prop} {fn : Func} {vs : List Value} (ret : ∀ fr v Γ' h', φ v Γ' → Retd P b.fn v Γ' fr → Star Γ' h' → Ev P X (gor fr cs) h') (hf : P.funcs[b.fn]? = some fn) (hv : resV E fn.results.toList = some vs)
    (e : φ (packV vs) Γ) (hk : b.kind = .normal := by rfl) (hd : b.defers = [] := by rfl) (hr : b.ro = none := by rfl) : Ex P X b n E [] cs Γ :=
  ex_end hf hk hd hr hv fun fr h' hr hs => ret fr _ _ h' e hr hs

end

def envOf : Nat → List Value → Env
  | _, [] => []
  | i, v :: vs => (i, v) :: envOf (i + 1) vs

theorem envOf_get (vs : List Value) : ∀ (i s : Nat) (v : Value), Env.get (envOf i vs) s = some v → i ≤ s ∧ vs[s - i]? = some v := by
  induction vs with
  | nil => intro i s v e; cases e
  | cons u vs ih =>
    intro i s v e
    rw [envOf, Env.get_cons] at e
    split at e
    · subst_vars; cases e; simp
    · rename_i hne
      obtain ⟨h1, h2⟩ := ih _ _ _ e
      refine ⟨by omega, ?_⟩
      have : s - i = (s - (i + 1)) + 1 := by omega
      rw [this]; simpa using h2

/-- A function's contract is shown by its body. -/
theorem calls_of_body {P : Program} {f : FuncId} {fn : Func} {c : Code} {args : List Value} {Γ : List Ch} {φ : Value → List Ch → Prop} {nt : Nat} (hf : P.funcs[f]? = some fn) (hb : fn.body = some c) (hn : fn.ntmps = nt)
    (h : ∀ (X : Tgt) (cs : List Frame), (∀ fr v Γ' h', φ v Γ' → Retd P f v Γ' fr → Star Γ' h' → Ev P X (gor fr cs) h') →
      Ex P X ⟨f, .normal, none, []⟩ nt (envOf 0 args) [.code c] cs Γ) (ha' : Nat.ble args.length nt = true := by rfl) : CallsX P f args.toArray Γ φ := by
  have ha : args.length ≤ nt := Nat.le_of_ble_eq_true ha'
  intro X cs hh s ret
  have e : Frame.enter P f args.toArray .normal = (Base.mk f .normal none []).fr (args.toArray ++ Array.replicate (fn.ntmps - args.toArray.size) undef) [.code c] := by
    simp [Frame.enter, Base.fr, hf, hb]
  rw [e]
  refine h X cs ret _ hh ⟨by simp; omega, ?_⟩ s
  intro i v hv
  obtain ⟨_, h2⟩ := envOf_get _ _ _ _ hv
  have hl : i < args.length := by
    rcases Nat.lt_or_ge i args.length with hl | hl
    · exact hl
    · simp [List.getElem?_eq_none hl] at h2
  rw [Array.getElem?_append_left (by simpa using hl)]
  simpa using h2

/-- A function's contract is shown by its body, for one target. -/
theorem calls_of_bodyA {P : Program} {X : Tgt} {f : FuncId} {fn : Func} {c : Code} {args : List Value} {Γ : List Ch} {φ : Value → List Ch → Prop} {nt : Nat} (hf : P.funcs[f]? = some fn) (hb : fn.body = some c) (hn : fn.ntmps = nt)
    (h : ∀ (cs : List Frame), (∀ fr v Γ' h', φ v Γ' → Retd P f v Γ' fr → Star Γ' h' → Ev P X (gor fr cs) h') →
      Ex P X ⟨f, .normal, none, []⟩ nt (envOf 0 args) [.code c] cs Γ) (ha' : Nat.ble args.length nt = true := by rfl) : CallsA P X f args.toArray Γ φ := by
  have ha : args.length ≤ nt := Nat.le_of_ble_eq_true ha'
  intro cs hh s ret
  have e : Frame.enter P f args.toArray .normal = (Base.mk f .normal none []).fr (args.toArray ++ Array.replicate (fn.ntmps - args.toArray.size) undef) [.code c] := by
    simp [Frame.enter, Base.fr, hf, hb]
  rw [e]
  refine h cs ret _ hh ⟨by simp; omega, ?_⟩ s
  intro i v hv
  obtain ⟨_, h2⟩ := envOf_get _ _ _ _ hv
  have hl : i < args.length := by
    rcases Nat.lt_or_ge i args.length with hl | hl
    · exact hl
    · simp [List.getElem?_eq_none hl] at h2
  rw [Array.getElem?_append_left (by simpa using hl)]
  simpa using h2

/-! ### From here to the kit's 'Calls' -/

end Go.Lx
