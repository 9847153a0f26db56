/-
  Lemmas towards the law, proved without conditions of their own: COMPANY, THIRD PART: what is asked of the children and of the starter, each alone; the company's invariant, and how the world's turns keep it. No condition; COMPANY, FOURTH PART: how each move keeps the company's invariant. No condition.
-/
import Derived.Test.YtedaknlacigbhaaPk12
namespace Go.Lx
open Go Go.Conc

/-- What is shared: of one block the first two cells are read, the third is touched atomically; of the channels: that they are looked at. -/
def Sh (B : Nat) (ch : Bool → Nat) (a : Touch) : Prop :=
  (∃ ad, a.loc = .cell ad ∧ ad.block = B ∧ ((a.write = false ∧ ad.off < 2) ∨ (a.kind = .atomic ∧ ad.off = 2))) ∨ (∃ b, a.loc = .obj (ch b) ∧ a.write = false)

theorem Sh.blk {B : Nat} {ch : Bool → Nat} {a : Touch} (s : Sh B ch a) : Loc.blk a.loc = some B ∨ ∃ b, Loc.blk a.loc = some (ch b) := by
  rcases s with ⟨ad, e, e2, _⟩ | ⟨b, e, _⟩
  · rw [e, ← e2]; exact .inl rfl
  · rw [e]; exact .inr ⟨b, rfl⟩

theorem Sh.noConf {B : Nat} {ch : Bool → Nat} {a b : Touch} (x : Sh B ch a) (y : Sh B ch b) (said : Bool) : ¬ a.conflicts said b := by
  rintro ⟨hl, _, hw, hk⟩
  rcases x with ⟨ad, e, _, c⟩ | ⟨i, e, w1⟩ <;> rcases y with ⟨ad', e', _, c'⟩ | ⟨i', e', w2⟩
  · rw [e, e'] at hl
    cases hl
    rcases c with ⟨w1, o1⟩ | ⟨k1, o1⟩ <;> rcases c' with ⟨w2, o2⟩ | ⟨k2, o2⟩
    · rw [w1, w2] at hw; simp at hw
    · omega
    · omega
    · rw [k1, k2] at hk; simp at hk
  · rw [e, e'] at hl; cases hl
  · rw [e, e'] at hl; cases hl
  · rw [w1, w2] at hw; simp at hw

/-- An access of what is shared. -/
def ShEv (B : Nat) (ch : Bool → Nat) (x : Event) : Prop :=
  (∃ m, x.loc = .mark m ∧ okMark m = true) ∨ (∃ ad, x.loc = .cell ad ∧ ad.block = B ∧ ((x.write = false ∧ ad.off < 2) ∨ (x.sync = true ∧ ad.off = 2))) ∨ (∃ b, x.loc = .obj (ch b) ∧ x.write = false)

structure KS where
  vs : List Value
  k : Nat
  g : Goroutine
  h : LH

inductive Sd where
  | off (vs : List Value) (k : Nat)
  | on (vs : List Value)
  | gone

/-- Where a child stands. -/
inductive KX where
  | off (vs : List Value) (k : Nat)
  | run (s : KS)
  | park (s : KS) (g : Goroutine) (v z : Value)
  | shut (h : LH)
  | gone

def KX.ac : KX → Option LH
  | .run s | .park s _ _ _ => some s.h
  | .shut h => some h
  | _ => none

def KX.k : KX → Nat
  | .off _ k => k
  | .run s | .park s _ _ _ => s.k
  | _ => 0

def KX.sd : KX → Sd
  | .off vs k => .off vs k
  | .run s => .on s.vs
  | .park s _ v _ => .on (v :: s.vs)
  | .shut _ => .on []
  | .gone => .gone

section
variable (P : Program) (B : Nat) (bo : Nat → Obj)

/-- What a child does next. -/
inductive KidStep (ch : Bool → Nat) (c : Nat) (Fin : LH → Prop) (N : KX → Prop) : KX → Prop
  | own {vs : List Value} {k : Nat} {g : Goroutine} {h : LH} : StepOK P false g h (fun g' h' => N (.run ⟨vs, k, g', h'⟩)) → KidStep ch c Fin N (.run ⟨vs, k, g, h⟩)
  | rd {vs : List Value} {k : Nat} {g : Goroutine} {h : LH} : (∀ w m, h.Sub w → w.heap[B]? = some (bo m) → ∃ fr cs es, stepG P false g w = .go (gor fr cs) w es ∧ (∀ x ∈ es, ShEv B ch x) ∧ N (.run ⟨vs, k, gor fr cs, h⟩)) → KidStep ch c Fin N (.run ⟨vs, k, g, h⟩)
  | add {vs : List Value} {k : Nat} {g : Goroutine} {h : LH} : (∀ w m, h.Sub w → w.heap[B]? = some (bo (m + 1)) → ∃ fr cs es, stepG P false g w = .go (gor fr cs) { w with heap := w.heap.setIfInBounds B (bo m) } es ∧ (∀ x ∈ es, ShEv B ch x) ∧ N (.run ⟨vs, k, gor fr cs, h⟩)) → KidStep ch c Fin N (.run ⟨vs, k + 1, g, h⟩)
  | send {v : Value} {vs : List Value} {k : Nat} {g : Goroutine} {h : LH} (z : Value) : (∀ w, h.Sub w → ∃ es, stepG P false g w = .comm (core g) #[scase c v z] true .send w es ∧ ∀ x ∈ es, EvOK h x) →
      N (.run ⟨vs, k, Conc.served (core g) undef, h⟩) → N (.park ⟨vs, k, Conc.served (core g) undef, h⟩ g v z) → KidStep ch c Fin N (.run ⟨v :: vs, k, g, h⟩)
  | shut {g : Goroutine} {h : LH} : mayWake P g = true → (∀ w s r tm, h.Sub w → w.heap[c]? = some (.chan 0 #[] false s r tm) → ∃ (g' : Goroutine) (es : Array Event) (n : Nat), stepG P false g w = .go g' (w.shut c s r tm) (es.push ⟨.obj c, true, true⟩) ∧ (∀ x ∈ es, EvOK h x ∨ ShEv B ch x) ∧ QuitsIn P n g') →
      N (.shut h) → KidStep ch c Fin N (.run ⟨[], 0, g, h⟩)
  | park {s : KS} {g : Goroutine} {v z : Value} : s.g = Conc.served (core g) undef → N (.run s) → KidStep ch c Fin N (.park s g v z)
  | gone {h : LH} : Fin h → N .gone → KidStep ch c Fin N (.shut h)
  | off {vs : List Value} {k : Nat} : KidStep ch c Fin N (.off vs k)
  | done : KidStep ch c Fin N .gone

inductive Kid (ch : Bool → Nat) (c : Nat) (Fin : LH → Prop) : KX → Prop
  | node {x : KX} (N : KX → Prop) : (∀ s, x = .run s → s.g.status = .running) → KidStep P B bo ch c Fin N x → (∀ y, N y → Kid ch c Fin y) → Kid ch c Fin x

structure MS where
  sd : Bool → Sd
  g : Goroutine
  h : LH

def MS.turn (s : MS) (b : Bool) (d : Sd) (g : Goroutine) (h : LH) : MS := ⟨fun b' => if b' = b then d else s.sd b', g, h⟩

def Sd.chan (c : Nat) : Sd → Option Nat
  | .on _ => some c
  | _ => none

def Sd.live : Sd → Bool
  | .off .. => false
  | _ => true

def selCases (sd : Bool → Sd) (ch : Bool → Nat) (zz : Bool → Value) : Array CommCase := #[ocase ((sd false).chan (ch false)) (zz false), ocase ((sd true).chan (ch true)) (zz true)]

def bIx (b : Bool) : Nat := if b then 1 else 0

/-- What the starter does next. -/
inductive MainStep (ch : Bool → Nat) (zz : Bool → Value) (Fin : Bool → LH → Prop) (K : Goroutine → LH → Prop) (N : MS → Prop) : MS → Prop
  | own {s : MS} : StepOK P true s.g s.h (fun g' h' => N ⟨s.sd, g', h'⟩) → MainStep ch zz Fin K N s
  | fork {s : MS} (b : Bool) {vs : List Value} {k : Nat} {g' child : Goroutine} {hm hc : LH} : s.sd b = .off vs k → (b = true → ∀ vs k, s.sd false ≠ .off vs k) → g'.status = .running → (∀ w, s.h.Sub w → ∃ es, stepG P true s.g w = .spawn g' child w es ∧ ∀ x ∈ es, EvOK s.h x) →
      Join hm hc s.h → Kid P B bo ch (ch b) (Fin b) (.run ⟨vs, k, child, hc⟩) → N (s.turn b (.on vs) g' hm) → MainStep ch zz Fin K N s
  | sel {s : MS} : (∀ b, (s.sd b).live = true) → (∃ b vs, s.sd b = .on vs) → (∀ w, s.h.Sub w → ∃ es, stepG P true s.g w = .comm (core s.g) (selCases s.sd ch zz) true .select w es ∧ ∀ x ∈ es, EvOK s.h x) →
      (∀ b v vs, s.sd b = .on (v :: vs) → N (s.turn b (.on vs) (Conc.served (core s.g) (commResult (selCases s.sd ch zz) .select (bIx b) v true)) s.h)) →
      (∀ b hc h', s.sd b = .on [] → Fin b hc → Join s.h hc h' → N (s.turn b .gone (Conc.served (core s.g) (commResult (selCases s.sd ch zz) .select (bIx b) (zz b) false)) h')) → MainStep ch zz Fin K N s
  | done {s : MS} : (∀ b, s.sd b = .gone) → K s.g s.h → MainStep ch zz Fin K N s

inductive MainT (ch : Bool → Nat) (zz : Bool → Value) (Fin : Bool → LH → Prop) (K : Goroutine → LH → Prop) : MS → Prop
  | node {s : MS} (N : MS → Prop) : s.g.status = .running → MainStep P B bo ch zz Fin K N s → (∀ y, N y → MainT ch zz Fin K y) → MainT ch zz Fin K s
end

/-! ### the invariant -/

/-- All the blocks that are nobody's own. -/
def Offs (B : Nat) (ch : Bool → Nat) (e : Nat) : Prop := e = B ∨ ∃ b, e = ch b

/-- What the company has done to the world since its start. -/
structure Far (h0 : LH) (w0 : World) (O : Nat → Prop) (Ac : Nat → Option LH) (w : World) : Prop where
  size : w0.heap.size ≤ w.heap.size
  keep : ∀ b, b < w0.heap.size → h0 b = none → w.heap[b]? = w0.heap[b]?
  os : w.os = w0.os
  output : w.output = w0.output
  tape : w.tape = w0.tape
  perm : ∀ b p o, h0 b = some (p, o) → O b ∨ ∃ g h o', Ac g = some h ∧ h b = some (p, o') ∧ (p = false → o' = o)
  new : ∀ g h b p o, Ac g = some h → h b = some (p, o) → h0 b = none → w0.heap.size ≤ b

def chOf (w : World) (c : Nat) : KX → Prop
  | .shut _ => ∃ s r tm, w.heap[c]? = some (.chan 0 #[] true s r tm)
  | .gone => ∃ o, w.heap[c]? = some o
  | _ => ∃ s r tm, w.heap[c]? = some (.chan 0 #[] false s r tm)

/-- The child as the machine has it. -/
def gOf (P : Program) (i : Nat) (gs : Array Goroutine) (t : Trace) (c : Nat) (q : Nat → Nat) : KX → Prop
  | .off _ _ => gs.size ≤ i
  | .run s => gs[i]? = some s.g
  | .park s g v z => gs[i]? = some (parked (core g) #[scase c v z] .send)
  | .shut _ => ∃ g, gs[i]? = some g ∧ QuitsIn P (q i) g ∧ ∃ (qc : Nat) (z : MemOp), t[qc]? = some z ∧ z.g = i ∧ z.act = .close c ∧ ∀ (j : Nat) (x : MemOp), t[j]? = some x → x.g = i → j ≤ qc
  | .gone => ∃ g, gs[i]? = some g ∧ QuitsIn P (q i) g

def Act (m : Nat) (h : LH) (ix : Bool → Nat) (xs : Bool → KX) (k : Nat) : Option LH :=
  if k = m then some h else if k = ix false then (xs false).ac else if k = ix true then (xs true).ac else none

/-- One of them turns its own heap. -/
theorem far_upd {h0 : LH} {w0 : World} {O : Nat → Prop} {Ac Ac' : Nat → Option LH} {w w' : World} {g : Nat} {h h' : LH} (f : Far h0 w0 O Ac w) (hg : Ac g = some h) (hg' : Ac' g = some h') (he : ∀ k, k ≠ g → Ac' k = Ac k) (u : Upd h w h' w')
    (sub : ∀ g h, Ac g = some h → h.Sub w) : Far h0 w0 O Ac' w' := by
  refine ⟨Nat.le_trans f.size u.size, fun b hb hn => ?_, u.os.trans f.os, u.output.trans f.output, u.tape.trans f.tape, fun b p o e => ?_, fun k hk b p o e e2 hn => ?_⟩
  · cases e : h b with
    | none => rw [u.keep b (Nat.lt_of_lt_of_le hb f.size) e]; exact f.keep b hb hn
    | some po => obtain ⟨p, o⟩ := po; exact absurd hb (Nat.not_lt.2 (f.new g h b p o hg e hn))
  · rcases f.perm b p o e with x | ⟨k, hk, o', e1, e2, e3⟩
    · exact .inl x
    · by_cases kg : k = g
      · subst kg
        rw [hg] at e1; cases e1
        obtain ⟨o2, e4, e5⟩ := u.perm b p o' e2
        exact .inr ⟨k, h', o2, hg', e4, fun hp => (e5 hp).trans (e3 hp)⟩
      · exact .inr ⟨k, hk, o', by rw [he k kg]; exact e1, e2, e3⟩
  · by_cases kg : k = g
    · subst kg
      rw [hg'] at e; cases e
      cases e4 : h b with
      | some po => obtain ⟨p0, o0⟩ := po; exact f.new k h b p0 o0 hg e4 hn
      | none => exact Nat.le_trans f.size (u.new b p o e4 e2).1
    · exact f.new k hk b p o (by rw [← he k kg]; exact e) e2 hn

theorem sub_upd {Ac Ac' : Nat → Option LH} {w w' : World} {g : Nat} {h h' : LH} (hg : Ac g = some h) (hg' : Ac' g = some h') (he : ∀ k, k ≠ g → Ac' k = Ac k) (u : Upd h w h' w')
    (two : ∀ g g' h h', g ≠ g' → Ac g = some h → Ac g' = some h' → ∀ b p o p' o', h b = some (p, o) → h' b = some (p', o') → p = false ∧ p' = false ∧ o' = o) (sub : ∀ g h, Ac g = some h → h.Sub w) :
    (∀ g h, Ac' g = some h → h.Sub w') ∧ (∀ g g' h h', g ≠ g' → Ac' g = some h → Ac' g' = some h' → ∀ b p o p' o', h b = some (p, o) → h' b = some (p', o') → p = false ∧ p' = false ∧ o' = o) := by
  have one : ∀ k hk, k ≠ g → Ac k = some hk → ∀ b p o p' o', hk b = some (p, o) → h' b = some (p', o') → p = false ∧ p' = false ∧ o' = o := fun k hk n e b p o p' o' e1 e2 => by
    cases e3 : h b with
    | none => exact absurd (lt_of_heap (sub k hk e b p o e1)) (Nat.not_lt.2 (u.new b p' o' e3 e2).1)
    | some po =>
      obtain ⟨p0, o0⟩ := po
      obtain ⟨q1, q2, q3⟩ := two k g hk h n e hg b p o p0 o0 e1 e3
      obtain ⟨o2, e4, e5⟩ := u.perm b p0 o0 e3
      rw [e4] at e2; cases e2
      exact ⟨q1, q2, (e5 q2).trans q3⟩
  refine ⟨fun k hk e b p o e1 => ?_, fun k k' hk hk' n e e' b p o p' o' e1 e2 => ?_⟩
  · by_cases kg : k = g
    · subst kg; rw [hg'] at e; cases e; exact u.sub b p o e1
    · rw [he k kg] at e
      have hl := sub k hk e b p o e1
      cases e3 : h b with
      | none => rw [u.keep b (lt_of_heap hl) e3]; exact hl
      | some po =>
        obtain ⟨p0, o0⟩ := po
        obtain ⟨q1, q2, q3⟩ := two k g hk h kg e hg b p o p0 o0 e1 e3
        obtain ⟨o2, e4, e5⟩ := u.perm b p0 o0 e3
        have := u.sub b p0 o2 e4
        rw [this, e5 q2, q3]
  · by_cases kg : k = g
    · subst kg
      rw [hg'] at e; cases e
      rw [he k' (fun x => n x.symm)] at e'
      obtain ⟨a1, a2, a3⟩ := one k' hk' (fun x => n x.symm) e' b p' o' p o e2 e1
      exact ⟨a2, a1, a3.symm⟩
    · by_cases kg' : k' = g
      · subst kg'
        rw [hg'] at e'; cases e'
        rw [he k kg] at e
        exact one k hk kg e b p o p' o' e1 e2
      · rw [he k kg] at e; rw [he k' kg'] at e'
        exact two k k' hk hk' n e e' b p o p' o' e1 e2

theorem off_upd {O : Nat → Prop} {Ac Ac' : Nat → Option LH} {w w' : World} {g : Nat} {h h' : LH} (hg : Ac g = some h) (hg' : Ac' g = some h') (he : ∀ k, k ≠ g → Ac' k = Ac k) (u : Upd h w h' w')
    (off : ∀ e, O e → ∀ g h, Ac g = some h → h e = none) (lt : ∀ e, O e → e < w.heap.size) :
    (∀ e, O e → ∀ g h, Ac' g = some h → h e = none) ∧ ∀ e, O e → w'.heap[e]? = w.heap[e]? := by
  refine ⟨fun e oe k hk ek => ?_, fun e oe => u.keep e (lt e oe) (off e oe g h hg)⟩
  by_cases kg : k = g
  · subst kg
    rw [hg'] at ek; cases ek
    cases e1 : h' e with
    | none => rfl
    | some po => obtain ⟨p, o⟩ := po; exact absurd (lt e oe) (Nat.not_lt.2 (u.new e p o (off e oe k h hg) e1).1)
  · rw [he k kg] at ek; exact off e oe k hk ek

/-- The world is turned at a shared block alone. -/
theorem far_put {h0 : LH} {w0 : World} {O : Nat → Prop} {Ac : Nat → Option LH} {w w' : World} (f : Far h0 w0 O Ac w) (h0O : ∀ e, O e → h0 e ≠ none) (sz : w'.heap.size = w.heap.size) (keep : ∀ b, ¬ O b → w'.heap[b]? = w.heap[b]?) (e1 : w'.os = w.os) (e2 : w'.output = w.output) (e3 : w'.tape = w.tape) :
    Far h0 w0 O Ac w' :=
  ⟨by rw [sz]; exact f.size, fun b hb hn => by rw [keep b (fun o => h0O b o hn)]; exact f.keep b hb hn, e1.trans f.os, e2.trans f.output, e3.trans f.tape, f.perm, f.new⟩

theorem sub_put {O : Nat → Prop} {Ac : Nat → Option LH} {w w' : World} (sub : ∀ g h, Ac g = some h → h.Sub w) (off : ∀ e, O e → ∀ g h, Ac g = some h → h e = none) (keep : ∀ b, ¬ O b → w'.heap[b]? = w.heap[b]?) : ∀ g h, Ac g = some h → h.Sub w' := fun g h e b p o eb => by
  rw [keep b (fun ob => by rw [off b ob g h e] at eb; cases eb)]; exact sub g h e b p o eb

/-- All that is held of the world and of the trace. -/
structure Wd (B : Nat) (ch : Bool → Nat) (h0 : LH) (w0 : World) (Ac : Nat → Option LH) (w : World) (t : Trace) : Prop where
  com : Com Ac (Sh B ch) t
  two : ∀ g g' h h', g ≠ g' → Ac g = some h → Ac g' = some h' → ∀ b p o p' o', h b = some (p, o) → h' b = some (p', o') → p = false ∧ p' = false ∧ o' = o
  off : ∀ e, Offs B ch e → ∀ g h, Ac g = some h → h e = none
  sub : ∀ g h, Ac g = some h → h.Sub w
  far : Far h0 w0 (Offs B ch) Ac w
  lt : ∀ e, Offs B ch e → e < w.heap.size
  h0O : ∀ e, Offs B ch e → h0 e ≠ none

section
variable {B : Nat} {ch : Bool → Nat} {h0 : LH} {w0 : World} {Ac Ac' : Nat → Option LH} {w w' : World} {t : Trace}

theorem sh_off {a : Touch} (s : Sh B ch a) {b : Nat} (e : Loc.blk a.loc = some b) : Offs B ch b := by
  rcases s.blk with x | ⟨i, x⟩
  · rw [e] at x; exact .inl (Option.some.inj x)
  · rw [e] at x; exact .inr ⟨i, Option.some.inj x⟩

theorem apart_of (two : ∀ g g' h h', g ≠ g' → Ac g = some h → Ac g' = some h' → ∀ b p o p' o', h b = some (p, o) → h' b = some (p', o') → p = false ∧ p' = false ∧ o' = o) (off : ∀ e, Offs B ch e → ∀ g h, Ac g = some h → h e = none) : Apart Ac (Sh B ch) :=
  ⟨two, fun a s b e g h eg => off b (sh_off s e) g h eg, fun a b said x y => x.noConf y said⟩

theorem Wd.apart (c : Wd B ch h0 w0 Ac w t) : Apart Ac (Sh B ch) := apart_of c.two c.off

/-- The world is turned at shared blocks alone. -/
theorem Wd.put (c : Wd B ch h0 w0 Ac w t) (sz : w'.heap.size = w.heap.size) (keep : ∀ b, ¬ Offs B ch b → w'.heap[b]? = w.heap[b]?) (e1 : w'.os = w.os) (e2 : w'.output = w.output) (e3 : w'.tape = w.tape) : Wd B ch h0 w0 Ac w' t :=
  ⟨c.com, c.two, c.off, sub_put c.sub c.off keep, far_put c.far c.h0O sz keep e1 e2 e3, fun e oe => by rw [sz]; exact c.lt e oe, c.h0O⟩

theorem Wd.at (c : Wd B ch h0 w0 Ac w t) (d : Nat) : Wd B ch h0 w0 Ac (w.at d) t := c.put rfl (fun _ _ => rfl) rfl rfl rfl

/-- One of them turns its own heap. -/
theorem Wd.own {g : Nat} {h h' : LH} {fn : FuncId} {pos : String} {es : Array Event} (c : Wd B ch h0 w0 Ac w t) (hg : Ac g = some h) (hg' : Ac' g = some h') (he : ∀ k, k ≠ g → Ac' k = Ac k) (u : Upd h w h' w') (ev : ∀ x ∈ es, EvOK h' x) :
    Wd B ch h0 w0 Ac' w' (t ++ MemOp.ofEvents g fn pos es) ∧ ∀ e, Offs B ch e → w'.heap[e]? = w.heap[e]? := by
  obtain ⟨s1, s2⟩ := sub_upd hg hg' he u c.two c.sub
  obtain ⟨o1, o2⟩ := off_upd hg hg' he u c.off c.lt
  obtain ⟨e1, e2, e3⟩ := ofEvents_evOK (g := g) (fn := fn) (pos := pos) ev
  exact ⟨⟨c.com.own (apart_of s2 o1) hg hg' he (fun a => InT.upd u) e1 e2 (fun op hop b hb hm => .inl (e3 op hop b hb hm)), s2, o1, s1, far_upd c.far hg hg' he u c.sub, fun e oe => Nat.lt_of_lt_of_le (c.lt e oe) u.size, c.h0O⟩, o2⟩

theorem ofEvents_shEv {g : Nat} {fn : FuncId} {pos : String} {es : Array Event} (he : ∀ x ∈ es, ShEv B ch x) :
    (∀ op ∈ MemOp.ofEvents g fn pos es, op.g = g) ∧ (∀ op ∈ MemOp.ofEvents g fn pos es, ∀ m, op.act = .mark m → okMark m = true) ∧ (∀ op ∈ MemOp.ofEvents g fn pos es, ∀ b, op.act.touch? = some b → b.loc.isMemory = true → Sh B ch b) := by
  refine ⟨fun op hop => ?_, fun op hop m hm => ?_, fun op hop b hb hmem => ?_⟩ <;> obtain ⟨e, hes, rfl⟩ := Conc.mem_ofEvents hop
  · rfl
  · obtain ⟨loc, wr, sy⟩ := e
    rcases he _ hes with ⟨m', e1, e2⟩ | ⟨ad, e1, _⟩ | ⟨i, e1, e2⟩
    · subst e1
      have e1 : MemAct.ofEvent ⟨.mark m', wr, sy⟩ = .mark m' := by cases wr <;> cases sy <;> rfl
      rw [e1] at hm; cases hm
      exact e2
    · subst e1
      cases wr <;> cases sy <;> simp [MemAct.ofEvent] at hm
    · subst e1
      cases wr <;> cases sy <;> simp [MemAct.ofEvent] at hm
  · obtain ⟨loc, wr, sy⟩ := e
    rcases he _ hes with ⟨m', e1, e2⟩ | ⟨ad, e1, e2, e3⟩ | ⟨i, e1, e2⟩
    · subst e1
      have e1 : MemAct.ofEvent ⟨.mark m', wr, sy⟩ = .mark m' := by cases wr <;> cases sy <;> rfl
      rw [e1] at hb
      cases m' <;> simp [okMark] at e2 <;> simp [MemAct.touch?] at hb
    · subst e1
      refine .inl ⟨ad, ?_⟩
      cases wr <;> cases sy <;> simp [MemAct.ofEvent, MemAct.touch?] at hb <;> subst hb <;> simp at e3 ⊢ <;> exact ⟨e2, e3⟩
    · have e2 : wr = false := e2
      subst e2
      have e1 : loc = .obj (ch i) := e1
      subst e1
      refine .inr ⟨i, ?_⟩
      cases sy <;> simp [MemAct.ofEvent, MemAct.touch?] at hb <;> subst hb <;> exact ⟨rfl, rfl⟩

/-- One of them touches its own, or what is shared, and lists it; the world stands. -/
theorem Wd.say2 {g : Nat} {h : LH} {fn : FuncId} {pos : String} {es : Array Event} (c : Wd B ch h0 w0 Ac w t) (hg : Ac g = some h) (ev : ∀ x ∈ es, EvOK h x ∨ ShEv B ch x) : Wd B ch h0 w0 Ac w (t ++ MemOp.ofEvents g fn pos es) := by
  refine ⟨c.com.own c.apart hg hg (fun _ _ => rfl) (fun _ => id) (fun op hop => ?_) (fun op hop => ?_) (fun op hop => ?_), c.two, c.off, c.sub, c.far, c.lt, c.h0O⟩ <;> obtain ⟨e, hes, rfl⟩ := Conc.mem_ofEvents hop
  · rfl
  · have hop1 : ({ g := g, fn := fn, pos := pos, act := .ofEvent e } : MemOp) ∈ MemOp.ofEvents g fn pos #[e] := by rw [Conc.ofEvents_eq]; simp
    rcases ev e hes with k | k
    · exact (ofEvents_evOK (g := g) (fn := fn) (pos := pos) (es := #[e]) (fun x hx => by simp at hx; subst hx; exact k)).2.1 _ hop1
    · exact (ofEvents_shEv (g := g) (fn := fn) (pos := pos) (es := #[e]) (fun x hx => by simp at hx; subst hx; exact k)).2.1 _ hop1
  · have hop1 : ({ g := g, fn := fn, pos := pos, act := .ofEvent e } : MemOp) ∈ MemOp.ofEvents g fn pos #[e] := by rw [Conc.ofEvents_eq]; simp
    rcases ev e hes with k | k
    · exact fun b hb hm => .inl ((ofEvents_evOK (g := g) (fn := fn) (pos := pos) (es := #[e]) (fun x hx => by simp at hx; subst hx; exact k)).2.2 _ hop1 b hb hm)
    · exact fun b hb hm => .inr ((ofEvents_shEv (g := g) (fn := fn) (pos := pos) (es := #[e]) (fun x hx => by simp at hx; subst hx; exact k)).2.2 _ hop1 b hb hm)
theorem Wd.say {g : Nat} {h : LH} {fn : FuncId} {pos : String} {es : Array Event} (c : Wd B ch h0 w0 Ac w t) (hg : Ac g = some h) (ev : ∀ x ∈ es, EvOK h x) : Wd B ch h0 w0 Ac w (t ++ MemOp.ofEvents g fn pos es) :=
  c.say2 hg fun x hx => .inl (ev x hx)

/-- One of them touches the shared block. -/
theorem Wd.shr {g : Nat} {h : LH} {fn : FuncId} {pos : String} {es : Array Event} (c : Wd B ch h0 w0 Ac w t) (hg : Ac g = some h) (ev : ∀ x ∈ es, ShEv B ch x) : Wd B ch h0 w0 Ac w (t ++ MemOp.ofEvents g fn pos es) := by
  obtain ⟨e1, e2, e3⟩ := ofEvents_shEv (g := g) (fn := fn) (pos := pos) ev
  exact ⟨c.com.own c.apart hg hg (fun _ _ => rfl) (fun _ => id) e1 e2 (fun op hop b hb hm => .inr (e3 op hop b hb hm)), c.two, c.off, c.sub, c.far, c.lt, c.h0O⟩

/-- Operations on channels. -/
theorem Wd.mute {u : Trace} (c : Wd B ch h0 w0 Ac w t) (hn : ∀ op ∈ u, op.act.touch? = none) (hq : ∀ op ∈ u, ∀ m, op.act = .mark m → okMark m = true) : Wd B ch h0 w0 Ac w (t ++ u) :=
  ⟨c.com.mute hn hq, c.two, c.off, c.sub, c.far, c.lt, c.h0O⟩

/-- A fork. -/
theorem Wd.fork {n : Nat} {h hm hc : LH} {y z : MemOp} (c : Wd B ch h0 w0 Ac w t) (a0 : Ac 0 = some h) (hn : Ac n = none) (hn0 : n ≠ 0) (j : Join hm hc h)
    (y1 : y.g = 0) (y2 : y.act = .go n) (z1 : z.g = n) (z2 : z.act = .start) (e0 : Ac' 0 = some hm) (en : Ac' n = some hc) (ek : ∀ k, k ≠ 0 → k ≠ n → Ac' k = Ac k) : Wd B ch h0 w0 Ac' w (t ++ #[y, z]) := by
  have hAc : (fun k => if k = 0 then some hm else if k = n then some hc else Ac k) = Ac' := by
    funext k
    by_cases k0 : k = 0
    · subst k0; simp [e0]
    · by_cases kn : k = n
      · subst kn; simp [k0, en]
      · simp [k0, kn, ek k k0 kn]
  have lm : ∀ b p o, hm b = some (p, o) → h b = some (p, o) := fun b p o e => by
    rcases j b with ⟨x1, x2⟩ | ⟨x1, x2⟩ | ⟨o', x1, x2, x3⟩
    · rw [x1] at e; cases e
    · rw [x2]; exact e
    · rw [x1] at e; cases e; exact x3
  have lc : ∀ b p o, hc b = some (p, o) → h b = some (p, o) := fun b p o e => by
    rcases j b with ⟨x1, x2⟩ | ⟨x1, x2⟩ | ⟨o', x1, x2, x3⟩
    · rw [x2]; exact e
    · rw [x1] at e; cases e
    · rw [x2] at e; cases e; exact x3
  have one : ∀ k hk, Ac' k = some hk → (k = 0 ∧ hk = hm) ∨ (k = n ∧ hk = hc) ∨ (k ≠ 0 ∧ k ≠ n ∧ Ac k = some hk) := fun k hk e => by
    by_cases k0 : k = 0
    · subst k0; rw [e0] at e; cases e; exact .inl ⟨rfl, rfl⟩
    · by_cases kn : k = n
      · subst kn; rw [en] at e; cases e; exact .inr (.inl ⟨rfl, rfl⟩)
      · exact .inr (.inr ⟨k0, kn, by rw [← ek k k0 kn]; exact e⟩)
  have up : ∀ k hk, Ac' k = some hk → ∃ k0 h0, Ac k0 = some h0 ∧ (∀ b p o, hk b = some (p, o) → h0 b = some (p, o)) ∧ (k0 = 0 ∨ k0 = k) ∧ (k0 = 0 → k = 0 ∨ k = n) := fun k hk e => by
    rcases one k hk e with ⟨rfl, rfl⟩ | ⟨rfl, rfl⟩ | ⟨k0, _, e'⟩
    · exact ⟨0, h, a0, lm, .inl rfl, fun _ => .inl rfl⟩
    · exact ⟨0, h, a0, lc, .inl rfl, fun _ => .inr rfl⟩
    · exact ⟨k, hk, e', fun _ _ _ => id, .inr rfl, fun e => absurd e k0⟩
  have mc : ∀ b p o p' o', hm b = some (p, o) → hc b = some (p', o') → p = false ∧ p' = false ∧ o' = o := fun b p o p' o' e e' => by
    rcases j b with ⟨x1, x2⟩ | ⟨x1, x2⟩ | ⟨o2, x1, x2, x3⟩
    · rw [x1] at e; cases e
    · rw [x1] at e'; cases e'
    · rw [x1] at e; rw [x2] at e'; cases e; cases e'; exact ⟨rfl, rfl, rfl⟩
  refine ⟨hAc ▸ c.com.fork a0 hn hn0 j y1 y2 z1 z2, fun g g' h1 h2 ne e e' b p o p' o' q q' => ?_, fun e oe g hg eg => ?_, fun g hg eg b p o q => ?_, ⟨c.far.size, c.far.keep, c.far.os, c.far.output, c.far.tape, fun b p o e => ?_, fun g hg b p o e q hn' => ?_⟩, c.lt, c.h0O⟩
  · rcases one g h1 e with ⟨rfl, rfl⟩ | ⟨rfl, rfl⟩ | ⟨g0, gn, eg⟩ <;> rcases one g' h2 e' with ⟨rfl, rfl⟩ | ⟨rfl, rfl⟩ | ⟨g0', gn', eg'⟩
    · exact absurd rfl ne
    · exact mc b p o p' o' q q'
    · exact c.two 0 g' h h2 ne a0 eg' b p o p' o' (lm b p o q) q'
    · obtain ⟨a, b, c⟩ := mc b p' o' p o q' q; exact ⟨b, a, c.symm⟩
    · exact absurd rfl ne
    · exact c.two 0 g' h h2 (fun x => g0' x.symm) a0 eg' b p o p' o' (lc b p o q) q'
    · exact c.two g 0 h1 h g0 eg a0 b p o p' o' q (lm b p' o' q')
    · exact c.two g 0 h1 h g0 eg a0 b p o p' o' q (lc b p' o' q')
    · exact c.two g g' h1 h2 ne eg eg' b p o p' o' q q'
  · obtain ⟨k0, h1, e1, l, _⟩ := up g hg eg
    cases e2 : hg e with
    | none => rfl
    | some po => obtain ⟨p, o⟩ := po; have := l _ _ _ e2; rw [c.off e oe k0 h1 e1] at this; cases this
  · obtain ⟨k0, h1, e1, l, _⟩ := up g hg eg
    exact c.sub k0 h1 e1 b p o (l _ _ _ q)
  · rcases c.far.perm b p o e with x | ⟨g, hg, o', e1, e2, e3⟩
    · exact .inl x
    · by_cases g0 : g = 0
      · subst g0
        rw [a0] at e1; cases e1
        rcases j b with ⟨x1, x2⟩ | ⟨x1, x2⟩ | ⟨o2, x1, x2, x3⟩
        · exact .inr ⟨n, hc, o', en, by rw [← x2]; exact e2, e3⟩
        · exact .inr ⟨0, hm, o', e0, by rw [← x2]; exact e2, e3⟩
        · rw [x3] at e2; cases e2; exact .inr ⟨0, hm, o', e0, x1, e3⟩
      · have gn : g ≠ n := fun x => by subst x; rw [hn] at e1; cases e1
        exact .inr ⟨g, hg, o', by rw [ek g g0 gn]; exact e1, e2, e3⟩
  · obtain ⟨k0, h1, e1, l, _⟩ := up g hg e
    exact c.far.new k0 h1 b p o e1 (l _ _ _ q) hn'

/-- A join. -/
theorem Wd.join {n q cc : Nat} {h h' hc : LH} {y z : MemOp} (c : Wd B ch h0 w0 Ac w t) (a0 : Ac 0 = some h) (hn : Ac n = some hc) (hn0 : n ≠ 0) (j : Join h hc h')
    (z0 : t[q]? = some z) (z1 : z.g = n) (z2 : z.act = .close cc) (zl : ∀ (i : Nat) (x : MemOp), t[i]? = some x → x.g = n → i ≤ q) (y1 : y.g = 0) (y2 : y.act = .recvClosed cc)
    (e0 : Ac' 0 = some h') (en : Ac' n = none) (ek : ∀ k, k ≠ 0 → k ≠ n → Ac' k = Ac k) : Wd B ch h0 w0 Ac' w (t ++ #[y]) := by
  have hAc : (fun k => if k = 0 then some h' else if k = n then none else Ac k) = Ac' := by
    funext k
    by_cases k0 : k = 0
    · subst k0; simp [e0]
    · by_cases kn : k = n
      · subst kn; simp [k0, en]
      · simp [k0, kn, ek k k0 kn]
  have one : ∀ k hk, Ac' k = some hk → (k = 0 ∧ hk = h') ∨ (k ≠ 0 ∧ k ≠ n ∧ Ac k = some hk) := fun k hk e => by
    by_cases k0 : k = 0
    · subst k0; rw [e0] at e; cases e; exact .inl ⟨rfl, rfl⟩
    · by_cases kn : k = n
      · subst kn; rw [en] at e; cases e
      · exact .inr ⟨k0, kn, by rw [← ek k k0 kn]; exact e⟩
  -- a block of h' is h's or hc's
  have src : ∀ b p o, h' b = some (p, o) → h b = some (p, o) ∨ hc b = some (p, o) := fun b p o e => by
    rcases j b with ⟨x1, x2⟩ | ⟨x1, x2⟩ | ⟨o2, x1, x2, x3⟩
    · exact .inr (by rw [← x2]; exact e)
    · exact .inl (by rw [← x2]; exact e)
    · rw [x3] at e; cases e; exact .inl x1
  have dst : ∀ b p o, (h b = some (p, o) ∨ hc b = some (p, o)) → h' b = some (p, o) := fun b p o e => by
    rcases j b with ⟨x1, x2⟩ | ⟨x1, x2⟩ | ⟨o2, x1, x2, x3⟩
    · rcases e with e | e
      · rw [x1] at e; cases e
      · rw [x2]; exact e
    · rcases e with e | e
      · rw [x2]; exact e
      · rw [x1] at e; cases e
    · rcases e with e | e
      · rw [x1] at e; cases e; exact x3
      · rw [x2] at e; cases e; exact x3
  have two0 : ∀ g hg, g ≠ 0 → g ≠ n → Ac g = some hg → ∀ b p o p' o', h' b = some (p, o) → hg b = some (p', o') → p = false ∧ p' = false ∧ o' = o := fun g hg g0 gn eg b p o p' o' e e' => by
    rcases src b p o e with x | x
    · exact c.two 0 g h hg (fun x => g0 x.symm) a0 eg b p o p' o' x e'
    · exact c.two n g hc hg (fun x => gn x.symm) hn eg b p o p' o' x e'
  refine ⟨hAc ▸ c.com.join a0 hn hn0 j z0 z1 z2 zl y1 y2, fun g g' h1 h2 ne e e' b p o p' o' q q' => ?_, fun e oe g hg eg => ?_, fun g hg eg b p o q => ?_, ⟨c.far.size, c.far.keep, c.far.os, c.far.output, c.far.tape, fun b p o e => ?_, fun g hg b p o e q hn' => ?_⟩, c.lt, c.h0O⟩
  · rcases one g h1 e with ⟨rfl, rfl⟩ | ⟨g0, gn, eg⟩ <;> rcases one g' h2 e' with ⟨rfl, rfl⟩ | ⟨g0', gn', eg'⟩
    · exact absurd rfl ne
    · exact two0 g' h2 g0' gn' eg' b p o p' o' q q'
    · obtain ⟨a, b, c⟩ := two0 g h1 g0 gn eg b p' o' p o q' q; exact ⟨b, a, c.symm⟩
    · exact c.two g g' h1 h2 ne eg eg' b p o p' o' q q'
  · rcases one g hg eg with ⟨rfl, rfl⟩ | ⟨_, _, e'⟩
    · cases e2 : hg e with
      | none => rfl
      | some po =>
        obtain ⟨p, o⟩ := po
        rcases src e p o e2 with x | x
        · rw [c.off e oe 0 h a0] at x; cases x
        · rw [c.off e oe n hc hn] at x; cases x
    · exact c.off e oe g hg e'
  · rcases one g hg eg with ⟨rfl, rfl⟩ | ⟨_, _, e'⟩
    · rcases src b p o q with x | x
      · exact c.sub 0 h a0 b p o x
      · exact c.sub n hc hn b p o x
    · exact c.sub g hg e' b p o q
  · rcases c.far.perm b p o e with x | ⟨g, hg, o', e1, e2, e3⟩
    · exact .inl x
    · by_cases g0 : g = 0
      · subst g0
        rw [a0] at e1; cases e1
        exact .inr ⟨0, h', o', e0, dst b p o' (.inl e2), e3⟩
      · by_cases gn : g = n
        · subst gn
          rw [hn] at e1; cases e1
          exact .inr ⟨0, h', o', e0, dst b p o' (.inr e2), e3⟩
        · exact .inr ⟨g, hg, o', by rw [ek g g0 gn]; exact e1, e2, e3⟩
  · rcases one g hg e with ⟨rfl, rfl⟩ | ⟨_, _, e'⟩
    · rcases src b p o q with x | x
      · exact c.far.new 0 h b p o a0 x hn'
      · exact c.far.new n hc b p o hn x hn'
    · exact c.far.new g hg b p o e' q hn'
end

structure CInv (P : Program) (B : Nat) (bo : Nat → Obj) (ch ix : Bool → Nat) (zz : Bool → Value) (h0 : LH) (w0 : World) (s : MS) (pk : Bool) (xs : Bool → KX) (gs : Array Goroutine) (w : World) (t : Trace) (q : Nat → Nat) : Prop where
  ix1 : 0 < ix false ∧ ix true = ix false + 1
  sd : ∀ b, (xs b).sd = s.sd b
  at0 : ∃ a, gs[0]? = some a ∧ a.frame = s.g.frame ∧ a.callers = s.g.callers ∧ a.dying = s.g.dying ∧ (if pk then a = parked (core s.g) (selCases s.sd ch zz) .select else a.status = .running)
  park : pk = true → (∀ b, ((∃ x, xs b = .run x) ∨ xs b = .gone)) ∧ (∃ b x, xs b = .run x) ∧ ∀ w, s.h.Sub w → ∃ es, stepG P true s.g w = .comm (core s.g) (selCases s.sd ch zz) true .select w es
  kid : ∀ b, gOf P (ix b) gs t (ch b) q (xs b)
  old : ∀ i g, 0 < i → i ≠ ix false → i ≠ ix true → gs[i]? = some g → QuitsIn P (q i) g
  low : ix false ≤ gs.size ∧ gs.size ≤ ix true + 1
  chn : ∀ b, chOf w (ch b) (xs b)
  chd : ch false ≠ ch true ∧ ch false ≠ B ∧ ch true ≠ B
  shd : w.heap[B]? = some (bo ((xs false).k + (xs true).k))
  wd : Wd B ch h0 w0 (Act 0 s.h ix xs) w t

end Go.Lx

namespace Go.Lx
open Go Go.Conc

def ud (xs : Bool → KX) (b : Bool) (x : KX) : Bool → KX := fun b' => if b' = b then x else xs b'

theorem ud_same (xs : Bool → KX) (b : Bool) (x : KX) : ud xs b x b = x := by simp [ud]
theorem ud_ne (xs : Bool → KX) {b b' : Bool} (x : KX) (h : b' ≠ b) : ud xs b x b' = xs b' := by simp [ud, h]

section
variable {ix : Bool → Nat} {xs : Bool → KX} {h : LH}

theorem ix_pos (e : 0 < ix false ∧ ix true = ix false + 1) (b : Bool) : ix b ≠ 0 := by cases b <;> omega
theorem ix_inj (e : 0 < ix false ∧ ix true = ix false + 1) {b b' : Bool} (x : ix b = ix b') : b = b' := by cases b <;> cases b' <;> simp_all

theorem act_zero : Act 0 h ix xs 0 = some h := by simp [Act]
theorem act_ix (e : 0 < ix false ∧ ix true = ix false + 1) (b : Bool) : Act 0 h ix xs (ix b) = (xs b).ac := by
  unfold Act
  rw [if_neg (ix_pos e b)]
  cases b with
  | false => rw [if_pos rfl]
  | true => rw [if_neg (by omega), if_pos rfl]
theorem act_else {k : Nat} (h0 : k ≠ 0) (h1 : k ≠ ix false) (h2 : k ≠ ix true) : Act 0 h ix xs k = none := by simp [Act, h0, h1, h2]
theorem act_ud (e : 0 < ix false ∧ ix true = ix false + 1) (b : Bool) (x : KX) {k : Nat} (hk : k ≠ ix b) : Act 0 h ix (ud xs b x) k = Act 0 h ix xs k := by
  by_cases k0 : k = 0
  · subst k0; simp [Act]
  · by_cases k1 : k = ix false
    · subst k1
      have : false ≠ b := fun x => by subst x; exact hk rfl
      rw [act_ix e, act_ix e, ud_ne xs x this]
    · by_cases k2 : k = ix true
      · subst k2
        have : true ≠ b := fun x => by subst x; exact hk rfl
        rw [act_ix e, act_ix e, ud_ne xs x this]
      · rw [act_else k0 k1 k2, act_else k0 k1 k2]
theorem act_h (h' : LH) {k : Nat} (hk : k ≠ 0) : Act 0 h' ix xs k = Act 0 h ix xs k := by simp [Act, hk]
end

theorem gOf_app {P : Program} {i : Nat} {gs : Array Goroutine} {t u : Trace} {c : Nat} {q : Nat → Nat} {x : KX} (g : gOf P i gs t c q x) (hu : ∀ op ∈ u, op.g ≠ i) : gOf P i gs (t ++ u) c q x := by
  cases x with
  | shut h =>
    obtain ⟨g, e, e2, qc, z, z0, z1, z2, z3⟩ := g
    refine ⟨g, e, e2, qc, z, by rw [getElem?_append_old (lt_size_of_getElem? z0)]; exact z0, z1, z2, fun j x hj hx => ?_⟩
    rcases getElem?_append_cases hj with ⟨_, hj'⟩ | ⟨_, hm⟩
    · exact z3 j x hj' hx
    · exact absurd hx (hu x hm)
  | _ => exact g

theorem gOf_set {P : Program} {i k : Nat} {gs : Array Goroutine} {t : Trace} {c : Nat} {q : Nat → Nat} {x : KX} {a : Goroutine} (g : gOf P i gs t c q x) (hk : k ≠ i) : gOf P i (gs.setIfInBounds k a) t c q x := by
  cases x with
  | off vs k' => simpa [gOf] using g
  | shut h => unfold gOf at *; rw [Array.getElem?_setIfInBounds_ne hk]; exact g
  | gone => unfold gOf at *; rw [Array.getElem?_setIfInBounds_ne hk]; exact g
  | run s => unfold gOf at *; rw [Array.getElem?_setIfInBounds_ne hk]; exact g
  | park s g' v z => unfold gOf at *; rw [Array.getElem?_setIfInBounds_ne hk]; exact g

theorem gOf_q {P : Program} {i : Nat} {gs : Array Goroutine} {t : Trace} {c : Nat} {q q' : Nat → Nat} {x : KX} (g : gOf P i gs t c q x) (hq : q' i = q i) : gOf P i gs t c q' x := by
  cases x with
  | shut h => unfold gOf at *; rw [hq]; exact g
  | gone => unfold gOf at *; rw [hq]; exact g
  | _ => exact g

theorem chOf_heap {w w' : World} {c : Nat} {x : KX} (e : w'.heap[c]? = w.heap[c]?) (g : chOf w c x) : chOf w' c x := by
  cases x <;> unfold chOf at * <;> rw [e] <;> exact g

theorem g_ofEvents {g k : Nat} {fn : FuncId} {pos : String} {es : Array Event} (h : g ≠ k) : ∀ op ∈ MemOp.ofEvents g fn pos es, op.g ≠ k := fun op hop => by
  obtain ⟨e, _, rfl⟩ := Conc.mem_ofEvents hop
  exact h

/-- Who is parked at a select of receives none of whose channels is closed stays. -/
theorem again_sel {g : Goroutine} {w : World} {sd : Bool → Sd} {ch : Bool → Nat} {zz : Bool → Value} {sh : CommShape} (h : ∀ b c, (sd b).chan (ch b) = some c → ∃ s r tm, w.heap[c]? = some (.chan 0 #[] false s r tm)) :
    (parked g (selCases sd ch zz) sh).again w = parked g (selCases sd ch zz) sh := by
  have key : ∀ b, (match (ocase ((sd b).chan (ch b)) (zz b)).chan with | .chan (some r) => (w.heap[r]? matches some (.chan _ _ true ..)) | _ => false) = false := fun b => by
    cases e : (sd b).chan (ch b) with
    | none => rfl
    | some c =>
      obtain ⟨s, r, tm, e2⟩ := h b c e
      simp [ocase, e2]
  have k0 := key false
  have k1 := key true
  unfold Goroutine.again parked selCases
  simp only [Array.any_eq_true]
  rw [if_neg]
  intro hx
  obtain ⟨i, hi, hx⟩ := hx
  match i, hi, hx with
  | 0, _, hx => exact Bool.noConfusion (k0.symm.trans hx)
  | 1, _, hx => exact Bool.noConfusion (k1.symm.trans hx)
  | i + 2, hi, _ => simp at hi; omega

section
variable {P : Program} {B : Nat} {bo : Nat → Obj} {ch ix : Bool → Nat} {zz : Bool → Value} {h0 : LH} {w0 : World} {s : MS} {pk : Bool} {xs : Bool → KX} {gs : Array Goroutine} {w w' : World} {sl : Option (Nat × Nat)} {t : Trace} {q : Nat → Nat}

def RunOK (xs : Bool → KX) : Prop := ∀ b s, xs b = .run s → s.g.status = .running

/-- Who stands where. -/
theorem CInv.who (c : CInv P B bo ch ix zz h0 w0 s pk xs gs w t q) {j : Nat} {g : Goroutine} (hj : gs[j]? = some g) : j = 0 ∨ (∃ b, j = ix b) ∨ (0 < j ∧ j ≠ ix false ∧ j ≠ ix true ∧ QuitsIn P (q j) g) := by
  by_cases j0 : j = 0
  · exact .inl j0
  · by_cases j1 : j = ix false
    · exact .inr (.inl ⟨false, j1⟩)
    · by_cases j2 : j = ix true
      · exact .inr (.inl ⟨true, j2⟩)
      · exact .inr (.inr ⟨Nat.pos_of_ne_zero j0, j1, j2, c.old j g (Nat.pos_of_ne_zero j0) j1 j2 hj⟩)

theorem on_of_run (c : CInv P B bo ch ix zz h0 w0 s pk xs gs w t q) {b : Bool} {cc : Nat} (e : (s.sd b).chan (ch b) = some cc) (h : (∃ x, xs b = .run x) ∨ xs b = .gone) : cc = ch b ∧ ∃ x, xs b = .run x := by
  rcases h with ⟨x, hx⟩ | hx
  · have := c.sd b
    rw [hx] at this
    rw [← this] at e
    simp [KX.sd, Sd.chan] at e
    exact ⟨e.symm, x, hx⟩
  · have := c.sd b
    rw [hx] at this
    rw [← this] at e
    simp [KX.sd, Sd.chan] at e

/-- Nobody is let try again by a step that closes no channel. -/
theorem CInv.calm (c : CInv P B bo ch ix zz h0 w0 s pk xs gs w t q) (ro : RunOK xs) (hch : ∀ b, chOf w' (ch b) (xs b)) (i : Nat) (a a' : Goroutine) :
    (gs.map (woken P a a' w')).setIfInBounds i a' = gs.setIfInBounds i a' := by
  apply Array.ext_getElem?
  intro j
  by_cases hij : i = j
  · subst hij
    by_cases hlt : i < gs.size
    · rw [Array.getElem?_setIfInBounds_self_of_lt (by simpa using hlt), Array.getElem?_setIfInBounds_self_of_lt hlt]
    · rw [Array.getElem?_eq_none (by simpa using hlt), Array.getElem?_eq_none (by simpa using hlt)]
  · rw [Array.getElem?_setIfInBounds_ne hij, Array.getElem?_setIfInBounds_ne hij, Array.getElem?_map]
    cases hg : gs[j]? with
    | none => rfl
    | some g =>
      have key : g.again w' = g := by
        rcases c.who hg with rfl | ⟨b, rfl⟩ | ⟨_, _, _, hq⟩
        · obtain ⟨a0, e0, _, _, _, e4⟩ := c.at0
          rw [hg] at e0; cases e0
          cases pk with
          | false => exact again_running _ (.inl e4)
          | true =>
            have e4 : g = parked (core s.g) (selCases s.sd ch zz) .select := e4
            rw [e4]
            refine again_sel fun b cc e => ?_
            obtain ⟨rfl, x, hx⟩ := on_of_run c e ((c.park rfl).1 b)
            have := hch b
            rw [hx] at this; exact this
        · have k := c.kid b
          have hb := hch b
          cases e : xs b with
          | off vs k' => rw [e] at k; have : gs.size ≤ ix b := k; rw [Array.getElem?_eq_none this] at hg; cases hg
          | run x => rw [e] at k; have : gs[ix b]? = some x.g := k; rw [hg] at this; cases this; exact again_running _ (.inl (ro b x e))
          | park x g' v z =>
            rw [e] at k hb
            have : gs[ix b]? = some _ := k
            rw [hg] at this; cases this
            obtain ⟨s', r', tm', hh⟩ := hb
            exact again_send_open hh
          | shut h' => rw [e] at k; obtain ⟨g', e1, e2, _⟩ := k; rw [hg] at e1; cases e1; exact again_running _ e2.status
          | gone => rw [e] at k; obtain ⟨g', e1, e2⟩ := k; rw [hg] at e1; cases e1; exact again_running _ e2.status
        · exact again_running _ hq.status
      simp only [Option.map_some, Option.some.injEq]
      unfold woken
      split
      · exact key
      · rfl

theorem CInv.at (c : CInv P B bo ch ix zz h0 w0 s pk xs gs w t q) (d : Nat) : CInv P B bo ch ix zz h0 w0 s pk xs gs (w.at d) t q :=
  ⟨c.ix1, c.sd, c.at0, c.park, c.kid, c.old, c.low, fun b => chOf_heap rfl (c.chn b), c.chd, c.shd, c.wd.at d⟩

theorem CInv.zero_lt (c : CInv P B bo ch ix zz h0 w0 s pk xs gs w t q) : 0 < gs.size := by have := c.low; have := c.ix1; omega

/-- (M1) A step of the starter's own. -/
theorem CInv.main (c : CInv P B bo ch ix zz h0 w0 s false xs gs w t q) {fr : Frame} {cs : List Frame} {h' : LH} {fn : FuncId} {pos : String} {es : Array Event} (u : Upd s.h w h' w') (ev : ∀ x ∈ es, EvOK h' x) :
    CInv P B bo ch ix zz h0 w0 ⟨s.sd, gor fr cs, h'⟩ false xs (gs.setIfInBounds 0 (gor fr cs)) w' (t ++ MemOp.ofEvents 0 fn pos es) q ∧ ∀ b, chOf w' (ch b) (xs b) := by
  obtain ⟨wd, oe⟩ := c.wd.own (Ac' := Act 0 h' ix xs) (g := 0) (fn := fn) (pos := pos) act_zero act_zero (fun k hk => act_h (h := s.h) h' hk) u ev
  have hch : ∀ b, chOf w' (ch b) (xs b) := fun b => chOf_heap (oe _ (.inr ⟨b, rfl⟩)) (c.chn b)
  refine ⟨⟨c.ix1, c.sd, ⟨gor fr cs, by simp [c.zero_lt], rfl, rfl, rfl, rfl⟩, fun e => absurd e (by decide), fun b => gOf_app (gOf_set (c.kid b) (ix_pos c.ix1 b).symm) (g_ofEvents (ix_pos c.ix1 b).symm), fun i g hi h1 h2 hg => ?_, by simpa using c.low, hch, c.chd, by rw [oe _ (.inl rfl)]; exact c.shd, wd⟩, hch⟩
  rw [Array.getElem?_setIfInBounds_ne (by omega)] at hg
  exact c.old i g hi h1 h2 hg

/-- Of a child that runs. -/
theorem CInv.kidAc (c : CInv P B bo ch ix zz h0 w0 s pk xs gs w t q) {b : Bool} {x : KX} {h : LH} (hx : xs b = x) (hh : x.ac = some h) : Act 0 s.h ix xs (ix b) = some h := by
  rw [act_ix c.ix1, hx, hh]

theorem shd_of {xs : Bool → KX} {b : Bool} {x : KX} (h : x.k = (xs b).k) : (ud xs b x false).k + (ud xs b x true).k = (xs false).k + (xs true).k := by
  cases b <;> simp [ud, h]

/-- (M2) A step of a child's own. -/
theorem CInv.kidOwn (c : CInv P B bo ch ix zz h0 w0 s pk xs gs w t q) {b : Bool} {k0 : KS} (hx : xs b = .run k0) {fr : Frame} {cs : List Frame} {h' : LH} {fn : FuncId} {pos : String} {es : Array Event} (u : Upd k0.h w h' w') (ev : ∀ x ∈ es, EvOK h' x) :
    CInv P B bo ch ix zz h0 w0 s pk (ud xs b (.run ⟨k0.vs, k0.k, gor fr cs, h'⟩)) (gs.setIfInBounds (ix b) (gor fr cs)) w' (t ++ MemOp.ofEvents (ix b) fn pos es) q ∧ ∀ b, chOf w' (ch b) (xs b) := by
  obtain ⟨wd, oe⟩ := c.wd.own (Ac' := Act 0 s.h ix (ud xs b (.run ⟨k0.vs, k0.k, gor fr cs, h'⟩))) (g := ix b) (fn := fn) (pos := pos) (c.kidAc hx rfl) (by rw [act_ix c.ix1, ud_same]; rfl) (fun k hk => act_ud c.ix1 b _ hk) u ev
  have hch : ∀ b, chOf w' (ch b) (xs b) := fun b => chOf_heap (oe _ (.inr ⟨b, rfl⟩)) (c.chn b)
  have hlt : ix b < gs.size := by
    have := c.kid b
    rw [hx] at this
    exact (Array.getElem?_eq_some_iff.1 this).1
  refine ⟨⟨c.ix1, fun b' => ?_, ?_, fun e => ?_, fun b' => ?_, fun i g hi h1 h2 hg => ?_, by simpa using c.low, fun b' => ?_, c.chd, ?_, wd⟩, hch⟩
  · by_cases hb : b' = b
    · subst hb; rw [ud_same, ← c.sd b', hx]; rfl
    · rw [ud_ne xs _ hb]; exact c.sd b'
  · obtain ⟨a, e0, e1⟩ := c.at0
    exact ⟨a, by rw [Array.getElem?_setIfInBounds_ne (ix_pos c.ix1 b)]; exact e0, e1⟩
  · obtain ⟨p1, _, p3⟩ := c.park e
    refine ⟨fun b' => ?_, ⟨b, _, ud_same xs b _⟩, p3⟩
    by_cases hb : b' = b
    · subst hb; rw [ud_same]; exact .inl ⟨_, rfl⟩
    · rw [ud_ne xs _ hb]; exact p1 b'
  · by_cases hb : b' = b
    · subst hb; rw [ud_same]; show (gs.setIfInBounds (ix b') (gor fr cs))[ix b']? = some (gor fr cs); rw [Array.getElem?_setIfInBounds_self_of_lt hlt]
    · rw [ud_ne xs _ hb]
      have ne : ix b ≠ ix b' := fun e => hb (ix_inj c.ix1 e).symm
      exact gOf_app (gOf_set (c.kid b') ne) (g_ofEvents ne)
  · rw [Array.getElem?_setIfInBounds_ne (by cases b; exact fun e => h1 e.symm; exact fun e => h2 e.symm)] at hg
    exact c.old i g hi h1 h2 hg
  · by_cases hb : b' = b
    · subst hb; rw [ud_same]; have := hch b'; rw [hx] at this; exact this
    · rw [ud_ne xs _ hb]; exact hch b'
  · rw [shd_of (by rw [hx]; rfl), oe _ (.inl rfl)]; exact c.shd

/-- A child's step at the shared block. -/
theorem CInv.kidShr (c : CInv P B bo ch ix zz h0 w0 s pk xs gs w t q) {b : Bool} {k0 : KS} {k' : Nat} (hx : xs b = .run k0) {fr : Frame} {cs : List Frame} {fn : FuncId} {pos : String} {es : Array Event} (ev : ∀ x ∈ es, ShEv B ch x)
    (hw : (k' = k0.k ∧ w' = w) ∨ (k0.k = k' + 1 ∧ ∃ m, (xs false).k + (xs true).k = m + 1 ∧ w' = { w with heap := w.heap.setIfInBounds B (bo m) })) :
    CInv P B bo ch ix zz h0 w0 s pk (ud xs b (.run ⟨k0.vs, k', gor fr cs, k0.h⟩)) (gs.setIfInBounds (ix b) (gor fr cs)) w' (t ++ MemOp.ofEvents (ix b) fn pos es) q ∧ ∀ b, chOf w' (ch b) (xs b) := by
  have hB : B < w.heap.size := c.wd.lt B (.inl rfl)
  have hcc : ∀ b, w'.heap[ch b]? = w.heap[ch b]? := fun b => by
    rcases hw with ⟨_, rfl⟩ | ⟨_, m, _, rfl⟩
    · rfl
    · have : B ≠ ch b := by cases b; exact c.chd.2.1.symm; exact c.chd.2.2.symm
      exact Array.getElem?_setIfInBounds_ne this
  have hA : Act 0 s.h ix (ud xs b (.run ⟨k0.vs, k', gor fr cs, k0.h⟩)) = Act 0 s.h ix xs := by
    funext k
    by_cases hk : k = ix b
    · subst hk; rw [act_ix c.ix1, act_ix c.ix1, ud_same, hx]; rfl
    · exact act_ud c.ix1 b _ hk
  have wd0 : Wd B ch h0 w0 (Act 0 s.h ix xs) w' t := by
    rcases hw with ⟨_, rfl⟩ | ⟨_, m, _, rfl⟩
    · exact c.wd
    · exact c.wd.put (by simp) (fun e ne => Array.getElem?_setIfInBounds_ne (fun x => ne (.inl x.symm))) rfl rfl rfl
  have wd := wd0.shr (fn := fn) (pos := pos) (c.kidAc hx rfl) ev
  have hch : ∀ b, chOf w' (ch b) (xs b) := fun b => chOf_heap (hcc b) (c.chn b)
  have hlt : ix b < gs.size := by
    have := c.kid b
    rw [hx] at this
    exact (Array.getElem?_eq_some_iff.1 this).1
  refine ⟨⟨c.ix1, fun b' => ?_, ?_, fun e => ?_, fun b' => ?_, fun i g hi h1 h2 hg => ?_, by simpa using c.low, fun b' => ?_, c.chd, ?_, by rw [hA]; exact wd⟩, hch⟩
  · by_cases hb : b' = b
    · subst hb; rw [ud_same, ← c.sd b', hx]; rfl
    · rw [ud_ne xs _ hb]; exact c.sd b'
  · obtain ⟨a, e0, e1⟩ := c.at0
    exact ⟨a, by rw [Array.getElem?_setIfInBounds_ne (ix_pos c.ix1 b)]; exact e0, e1⟩
  · obtain ⟨p1, _, p3⟩ := c.park e
    refine ⟨fun b' => ?_, ⟨b, _, ud_same xs b _⟩, p3⟩
    by_cases hb : b' = b
    · subst hb; rw [ud_same]; exact .inl ⟨_, rfl⟩
    · rw [ud_ne xs _ hb]; exact p1 b'
  · by_cases hb : b' = b
    · subst hb; rw [ud_same]; show (gs.setIfInBounds (ix b') (gor fr cs))[ix b']? = some (gor fr cs); rw [Array.getElem?_setIfInBounds_self_of_lt hlt]
    · rw [ud_ne xs _ hb]
      have ne : ix b ≠ ix b' := fun e => hb (ix_inj c.ix1 e).symm
      exact gOf_app (gOf_set (c.kid b') ne) (g_ofEvents ne)
  · rw [Array.getElem?_setIfInBounds_ne (by cases b; exact fun e => h1 e.symm; exact fun e => h2 e.symm)] at hg
    exact c.old i g hi h1 h2 hg
  · by_cases hb : b' = b
    · subst hb; rw [ud_same]; have := hch b'; rw [hx] at this; exact this
    · rw [ud_ne xs _ hb]; exact hch b'
  · rcases hw with ⟨e, rfl⟩ | ⟨e, m, em, rfl⟩
    · rw [shd_of (by rw [hx]; exact e)]; exact c.shd
    · have : (ud xs b (.run ⟨k0.vs, k', gor fr cs, k0.h⟩) false).k + (ud xs b (.run ⟨k0.vs, k', gor fr cs, k0.h⟩) true).k = m := by
        have hk : (xs b).k = k' + 1 := by rw [hx]; exact e
        cases b <;> simp [ud, KX.k] <;> simp [KX.k] at hk em <;> omega
      rw [this]
      show (w.heap.setIfInBounds B (bo m))[B]? = _
      rw [Array.getElem?_setIfInBounds_self_of_lt hB]
end

end Go.Lx
