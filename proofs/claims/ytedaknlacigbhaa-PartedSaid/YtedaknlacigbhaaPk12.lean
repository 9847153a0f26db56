/-
  Lemmas towards the law, proved without conditions of their own: COMPANY, FIRST PART: THE TRACE: goroutines with territories of their own, and one block that they share by a discipline: what each knows of the others' touches; no race. No condition; COMPANY, SECOND PART: a select of two receives, on two channels without a buffer, in the machine of many goroutines: whatever is ready, one of the two is taken. No condition.
-/
import Derived.Test.YtedaknlacigbhaaPk01
import Derived.Conc.Beside
import Derived.Conc.CrowdSel
namespace Go.Lx
open Go Go.Conc

/-- A touch within a territory. -/
def InT (h : LH) (a : Touch) : Prop :=
  match a.loc with
  | .cell x => ∃ p o, h x.block = some (p, o) ∧ (a.write = true → p = true)
  | .obj r => ∃ p o, h r = some (p, o) ∧ (a.write = true → p = true)
  | _ => False

def Loc.blk : Loc → Option Nat
  | .cell x => some x.block
  | .obj r => some r
  | _ => none

theorem InT.dom {h : LH} {a : Touch} (k : InT h a) : ∃ b p o, Loc.blk a.loc = some b ∧ h b = some (p, o) ∧ (a.write = true → p = true) := by
  unfold InT at k
  split at k
  · rename_i x e; obtain ⟨p, o, h1, h2⟩ := k; exact ⟨x.block, p, o, by rw [e]; rfl, h1, h2⟩
  · rename_i r e; obtain ⟨p, o, h1, h2⟩ := k; exact ⟨r, p, o, by rw [e]; rfl, h1, h2⟩
  · exact k.elim

theorem InT.of_perm {h h' : LH} {a : Touch} (hp : ∀ b p o, h b = some (p, o) → ∃ p' o', h' b = some (p', o') ∧ (p = true → p' = true)) (k : InT h a) : InT h' a := by
  unfold InT at *
  split
  · rename_i x e; rw [e] at k; obtain ⟨p, o, h1, h2⟩ := k; obtain ⟨p', o', h3, h4⟩ := hp _ _ _ h1; exact ⟨p', o', h3, fun w => h4 (h2 w)⟩
  · rename_i r e; rw [e] at k; obtain ⟨p, o, h1, h2⟩ := k; obtain ⟨p', o', h3, h4⟩ := hp _ _ _ h1; exact ⟨p', o', h3, fun w => h4 (h2 w)⟩
  · rename_i l h1 h2; revert k; split
    · rename_i x e; exact absurd e (h1 _)
    · rename_i x e; exact absurd e (h2 _)
    · exact id

theorem InT.upd {h h' : LH} {w w' : World} {a : Touch} (u : Upd h w h' w') (k : InT h a) : InT h' a :=
  k.of_perm fun b p o e => by obtain ⟨o', e', _⟩ := u.perm b p o e; exact ⟨p, o', e', id⟩

structure Com (Ac : Nat → Option LH) (S : Touch → Prop) (t : Trace) : Prop where
  clean : ∀ said, ¬ Race said t
  quiet : ∀ op ∈ t, ∀ m, op.act = .mark m → okMark m = true
  kn : ∀ i a, touchAt t i = some a → a.loc.isMemory = true → ∀ g h, Ac g = some h → Knows t g i ∨ ∃ g' h', g' ≠ g ∧ Ac g' = some h' ∧ Knows t g' i ∧ (InT h' a ∨ S a)

structure Apart (Ac : Nat → Option LH) (S : Touch → Prop) : Prop where
  two : ∀ g g' h h', g ≠ g' → Ac g = some h → Ac g' = some h' → ∀ b p o p' o', h b = some (p, o) → h' b = some (p', o') → p = false ∧ p' = false ∧ o' = o
  off : ∀ a, S a → ∀ b, Loc.blk a.loc = some b → ∀ g h, Ac g = some h → h b = none
  nc : ∀ a b said, S a → S b → ¬ a.conflicts said b

theorem quiet_app {t u : Trace} (a : ∀ op ∈ t, ∀ m, op.act = .mark m → okMark m = true) (b : ∀ op ∈ u, ∀ m, op.act = .mark m → okMark m = true) : ∀ op ∈ t ++ u, ∀ m, op.act = .mark m → okMark m = true := fun op hop =>
  (Array.mem_append.1 hop).elim (a op) (b op)

theorem quiet_deaf {t : Trace} (h : ∀ op ∈ t, ∀ m, op.act = .mark m → okMark m = true) (g : Nat) : ∀ i, t.deaf g i = 0 := by
  intro i
  induction i with
  | zero => rfl
  | succ i ih =>
    unfold Trace.deaf
    split
    · rename_i heq; have := h _ (Conc.mem_of_getElem? heq) .disable rfl; cases this
    · rename_i heq; have := h _ (Conc.mem_of_getElem? heq) .enable rfl; cases this
    · exact ih

theorem quiet_heard {t : Trace} (h : ∀ op ∈ t, ∀ m, op.act = .mark m → okMark m = true) {i : Nat} {op : MemOp} (hi : t[i]? = some op) : t.heard i := ⟨op.g, by simp [Trace.g?, hi], quiet_deaf h _ _⟩

/-- Who knew it knows it still. -/
theorem Com.old {Ac : Nat → Option LH} {S : Touch → Prop} {t : Trace} (c : Com Ac S t) (u : Trace) (i : Nat) (a : Touch) (ha : touchAt t i = some a) (hm : a.loc.isMemory = true) (g : Nat) (h : LH) (hg : Ac g = some h) :
    Knows (t ++ u) g i ∨ ∃ g' h', g' ≠ g ∧ Ac g' = some h' ∧ Knows (t ++ u) g' i ∧ (InT h' a ∨ S a) := by
  rcases c.kn i a ha hm g h hg with k | ⟨g', h', n, e, k, s⟩
  · exact .inl (k.app u)
  · exact .inr ⟨g', h', n, e, k.app u, s⟩

/-- (T1) Operations of one. -/
theorem Com.own {Ac Ac' : Nat → Option LH} {S : Touch → Prop} {g : Nat} {h h' : LH} {t u : Trace} (c : Com Ac S t) (ap : Apart Ac' S) (hg : Ac g = some h) (hg' : Ac' g = some h') (he : ∀ k, k ≠ g → Ac' k = Ac k) (hp : ∀ a, InT h a → InT h' a)
    (hu : ∀ op ∈ u, op.g = g) (hq : ∀ op ∈ u, ∀ m, op.act = .mark m → okMark m = true) (ht : ∀ op ∈ u, ∀ b, op.act.touch? = some b → b.loc.isMemory = true → InT h' b ∨ S b) : Com Ac' S (t ++ u) := by
  refine ⟨fun said => noRace_append (c.clean said) hu fun i a ha op hop b hb hc => ?_, quiet_app c.quiet hq, fun i a ha hm k hk hkk => ?_⟩
  · have hl := hc.1
    have hm : a.loc.isMemory = true := hc.2.1
    rcases c.kn i a ha hm g h hg with k | ⟨g2, h2, n, e, _, s⟩
    · exact k
    exfalso
    have e2 : Ac' g2 = some h2 := by rw [he g2 n]; exact e
    rcases ht op hop b hb (by rw [← hl]; exact hm) with y | y
    · obtain ⟨b2, p2, o2, y1, y2, y3⟩ := y.dom
      rcases s with x | x
      · obtain ⟨b1, p1, o1, x1, x2, x3⟩ := x.dom
        rw [hl, y1] at x1; cases x1
        obtain ⟨q1, q2, _⟩ := ap.two g2 g h2 h' n e2 hg' _ _ _ _ _ x2 y2
        subst q1; subst q2
        rcases hc.2.2.1 with w | w
        · cases x3 w
        · cases y3 w
      · rw [ap.off a x b2 (by rw [hl, y1]) g h' hg'] at y2; cases y2
    · rcases s with x | x
      · obtain ⟨b1, p1, o1, x1, x2, x3⟩ := x.dom
        rw [ap.off b y b1 (by rw [← hl, x1]) g2 h2 e2] at x2; cases x2
      · exact ap.nc a b said x y hc
  · obtain ⟨x, hx, hxa⟩ := touch_of ha
    rcases getElem?_append_cases hx with ⟨hi, hx'⟩ | ⟨_, hxu⟩
    · have ha' : touchAt t i = some a := by rw [touchAt_of hx']; exact hxa
      by_cases hkg : k = g
      · subst hkg
        rcases c.kn i a ha' hm k h hg with kk | ⟨g2, h2, n, e, kk, s⟩
        · exact .inl (kk.app u)
        · exact .inr ⟨g2, h2, n, by rw [he g2 n]; exact e, kk.app u, s⟩
      · rcases c.kn i a ha' hm k hk (by rw [← he k hkg]; exact hkk) with kk | ⟨g2, h2, n, e, kk, s⟩
        · exact .inl (kk.app u)
        · by_cases h2g : g2 = g
          · subst h2g
            rw [hg] at e; cases e
            exact .inr ⟨g2, h', n, hg', kk.app u, s.imp (hp a) id⟩
          · exact .inr ⟨g2, h2, n, by rw [he g2 h2g]; exact e, kk.app u, s⟩
    · have kk := knows_own hx
      rw [hu x hxu] at kk
      by_cases hkg : k = g
      · subst hkg; exact .inl kk
      · exact .inr ⟨g, h', fun e => hkg e.symm, hg', kk, ht x hxu a hxa hm⟩

/-- (T2) Operations that touch nothing. -/
theorem Com.mute {Ac : Nat → Option LH} {S : Touch → Prop} {t u : Trace} (c : Com Ac S t) (hn : ∀ op ∈ u, op.act.touch? = none) (hq : ∀ op ∈ u, ∀ m, op.act = .mark m → okMark m = true) : Com Ac S (t ++ u) := by
  refine ⟨fun said => ?_, quiet_app c.quiet hq, fun i a ha hm k hk hkk => ?_⟩
  · rintro ⟨i, j, hij, ⟨a, b, ha, hb, hc⟩, n1, n2⟩
    obtain ⟨x, hx, hxa⟩ := touch_of ha
    obtain ⟨y, hy, hyb⟩ := touch_of hb
    rcases getElem?_append_cases hy with ⟨hj, hy'⟩ | ⟨_, hyu⟩
    · rcases getElem?_append_cases hx with ⟨hi, hx'⟩ | ⟨_, hxu⟩
      · exact c.clean said ⟨i, j, hij, ⟨a, b, by simp [Trace.act?, hx', hxa], by simp [Trace.act?, hy', hyb], hc⟩, fun e => n1 (hb_app u e), fun e => n2 (hb_app u e)⟩
      · rw [hn x hxu] at hxa; cases hxa
    · rw [hn y hyu] at hyb; cases hyb
  · obtain ⟨x, hx, hxa⟩ := touch_of ha
    rcases getElem?_append_cases hx with ⟨hi, hx'⟩ | ⟨_, hxu⟩
    · exact c.old u i a (by rw [touchAt_of hx']; exact hxa) hm k hk hkk
    · rw [hn x hxu] at hxa; cases hxa

/-- (T3) A go statement: what goroutine 0 knows its child knows. -/
theorem Com.fork {Ac : Nat → Option LH} {S : Touch → Prop} {n : Nat} {h hm hc : LH} {t : Trace} {y z : MemOp} (c : Com Ac S t) (h0 : Ac 0 = some h) (hn : Ac n = none) (hn0 : n ≠ 0) (j : Join hm hc h)
    (y1 : y.g = 0) (y2 : y.act = .go n) (z1 : z.g = n) (z2 : z.act = .start) :
    Com (fun k => if k = 0 then some hm else if k = n then some hc else Ac k) S (t ++ #[y, z]) := by
  have hq : ∀ op ∈ (#[y, z] : Trace), ∀ m, op.act = .mark m → okMark m = true := by
    intro op hop m e
    simp at hop
    rcases hop with rfl | rfl
    · rw [y2] at e; cases e
    · rw [z2] at e; cases e
  have c2 : Com Ac S (t ++ #[y, z]) := c.mute (by
    intro op hop
    simp at hop
    rcases hop with rfl | rfl
    · rw [y2]; rfl
    · rw [z2]; rfl) hq
  have hy : (t ++ #[y, z])[t.size]? = some y := by rw [Array.getElem?_append_right (Nat.le_refl _)]; simp
  have hz : (t ++ #[y, z])[t.size + 1]? = some z := by rw [Array.getElem?_append_right (by omega)]; simp
  have edge : HappensBefore (t ++ #[y, z]) t.size (t.size + 1) := .single (.inr ⟨.spawn (child := n) (by rw [act?_of hy, y2]) (by rw [act?_of hz, z2]) (by simp [Trace.g?, z1]), quiet_heard c2.quiet hy, quiet_heard c2.quiet hz⟩)
  refine ⟨c2.clean, c2.quiet, fun i a ha hm' k hk hkk => ?_⟩
  obtain ⟨x, hx, hxa⟩ := touch_of ha
  have hi : i < t.size := by
    rcases getElem?_append_cases hx with ⟨hi, _⟩ | ⟨_, hxu⟩
    · exact hi
    · simp at hxu
      rcases hxu with rfl | rfl
      · rw [y2] at hxa; cases hxa
      · rw [z2] at hxa; cases hxa
  have ha' : touchAt t i = some a := by rw [touchAt_old hi] at ha; exact ha
  -- who knows at the fork
  have hkn : Knows t 0 i → Knows (t ++ #[y, z]) n i := fun kk => by
    have e1 := kk.hb_new (u := #[y, z]) (Nat.le_refl _) hy y1
    exact ⟨t.size + 1, z, hz, z1, .inr (e1.trans edge)⟩
  have split : ∀ b, InT h b → InT hm b ∨ InT hc b := fun b hb => by
    have key : ∀ q, (∃ p o, h q = some (p, o) ∧ (b.write = true → p = true)) → (∃ p o, hm q = some (p, o) ∧ (b.write = true → p = true)) ∨ (∃ p o, hc q = some (p, o) ∧ (b.write = true → p = true)) := fun q ⟨p, o, e, w⟩ => by
      rcases j q with ⟨x1, x2⟩ | ⟨x1, x2⟩ | ⟨o', x1, x2, x3⟩
      · exact .inr ⟨p, o, by rw [← x2]; exact e, w⟩
      · exact .inl ⟨p, o, by rw [← x2]; exact e, w⟩
      · rw [x3] at e; cases e; exact .inl ⟨_, _, x1, w⟩
    unfold InT at hb ⊢
    split
    · rename_i q e; rw [e] at hb; exact key _ hb
    · rename_i q e; rw [e] at hb; exact key _ hb
    · rename_i l q1 q2; revert hb; split
      · rename_i q e; exact absurd e (q1 _)
      · rename_i q e; exact absurd e (q2 _)
      · exact fun h => h.elim
  -- an owner in the old sense is one in the new sense, other than k
  have owner : ∀ k g' h', g' ≠ k → (k = n → g' ≠ 0) → Ac g' = some h' → Knows t g' i → (InT h' a ∨ S a) → (g' = 0 → k ≠ n) →
      ∃ g2 h2, g2 ≠ k ∧ (if g2 = 0 then some hm else if g2 = n then some hc else Ac g2) = some h2 ∧ Knows (t ++ #[y, z]) g2 i ∧ (InT h2 a ∨ S a) := fun k g' h' ne nk e kk s _ => by
    by_cases g0 : g' = 0
    · subst g0
      rw [h0] at e; cases e
      rcases s with s | s
      · rcases split a s with s | s
        · exact ⟨0, hm, ne, by simp, kk.app _, .inl s⟩
        · exact ⟨n, hc, fun e => nk e.symm rfl, by simp [hn0], hkn kk, .inl s⟩
      · exact ⟨0, hm, ne, by simp, kk.app _, .inr s⟩
    · have gn : g' ≠ n := fun e' => by rw [e', hn] at e; cases e
      exact ⟨g', h', ne, by simp [g0, gn, e], kk.app _, s⟩
  by_cases k0 : k = 0
  · subst k0
    rcases c.kn i a ha' hm' 0 h h0 with kk | ⟨g', h', ne, e, kk, s⟩
    · exact .inl (kk.app _)
    · exact .inr (owner 0 g' h' ne (fun e => absurd e.symm hn0) e kk s (fun e => absurd e ne))
  · by_cases kn' : k = n
    · subst kn'
      rcases c.kn i a ha' hm' 0 h h0 with kk | ⟨g', h', ne, e, kk, s⟩
      · exact .inl (hkn kk)
      · have gk : g' ≠ k := fun e' => by rw [e', hn] at e; cases e
        exact .inr (owner k g' h' gk (fun _ => ne) e kk s (fun e => absurd e ne))
    · have hkk' : Ac k = some hk := by simpa [k0, kn'] using hkk
      rcases c.kn i a ha' hm' k hk hkk' with kk | ⟨g', h', ne, e, kk, s⟩
      · exact .inl (kk.app _)
      · exact .inr (owner k g' h' ne (fun e => absurd e kn') e kk s (fun _ => kn'))

/-- (T4) Goroutine 0 finds the channel closed that its child has closed last of all: what the child knew it knows. -/
theorem Com.join {Ac : Nat → Option LH} {S : Touch → Prop} {n q ch : Nat} {h h' hc : LH} {t : Trace} {y z : MemOp} (c : Com Ac S t) (h0 : Ac 0 = some h) (hn : Ac n = some hc) (hn0 : n ≠ 0) (j : Join h hc h')
    (z0 : t[q]? = some z) (z1 : z.g = n) (z2 : z.act = .close ch) (zl : ∀ i x, t[i]? = some x → x.g = n → i ≤ q) (y1 : y.g = 0) (y2 : y.act = .recvClosed ch) :
    Com (fun k => if k = 0 then some h' else if k = n then none else Ac k) S (t ++ #[y]) := by
  have c2 : Com Ac S (t ++ #[y]) := c.mute (by
    intro op hop
    simp at hop
    subst hop
    rw [y2]; rfl) (by
    intro op hop m e
    simp at hop
    subst hop
    rw [y2] at e; cases e)
  have hy : (t ++ #[y])[t.size]? = some y := by rw [Array.getElem?_append_right (Nat.le_refl _)]; simp
  have hz : (t ++ #[y])[q]? = some z := by rw [getElem?_append_old (lt_size_of_getElem? z0)]; exact z0
  have edge : HappensBefore (t ++ #[y]) q t.size := .single (.inr ⟨.closed (c := ch) (by rw [act?_of hz, z2]) (by rw [act?_of hy, y2]), quiet_heard c2.quiet hz, quiet_heard c2.quiet hy⟩)
  refine ⟨c2.clean, c2.quiet, fun i a ha hm' k hk hkk => ?_⟩
  obtain ⟨x, hx, hxa⟩ := touch_of ha
  have hi : i < t.size := by
    rcases getElem?_append_cases hx with ⟨hi, _⟩ | ⟨_, hxu⟩
    · exact hi
    · simp at hxu
      subst hxu
      rw [y2] at hxa; cases hxa
  have ha' : touchAt t i = some a := by rw [touchAt_old hi] at ha; exact ha
  have hkn : Knows t n i → Knows (t ++ #[y]) 0 i := fun ⟨r, v, e1, e2, e3⟩ => by
    have hr := zl r v e1 e2
    refine ⟨t.size, y, hy, y1, ?_⟩
    refine (e3.app #[y]).trans (.inr ?_)
    rcases Nat.lt_or_ge r q with hlt | hge
    · exact (hb_po hlt (by rw [getElem?_append_old (lt_size_of_getElem? e1)]; exact e1) hz (e2.trans z1.symm)).trans edge
    · have : r = q := by omega
      subst this; exact edge
  have up0 : ∀ b, InT h b → InT h' b := fun b hb => hb.of_perm fun q p o e => by
    rcases j q with ⟨x1, x2⟩ | ⟨x1, x2⟩ | ⟨o', x1, x2, x3⟩
    · rw [x1] at e; cases e
    · exact ⟨p, o, by rw [x2]; exact e, id⟩
    · rw [x1] at e; cases e; exact ⟨_, _, x3, id⟩
  have upc : ∀ b, InT hc b → InT h' b := fun b hb => hb.of_perm fun q p o e => by
    rcases j q with ⟨x1, x2⟩ | ⟨x1, x2⟩ | ⟨o', x1, x2, x3⟩
    · exact ⟨p, o, by rw [x2]; exact e, id⟩
    · rw [x1] at e; cases e
    · rw [x2] at e; cases e; exact ⟨_, _, x3, id⟩
  by_cases k0 : k = 0
  · subst k0
    rcases c.kn i a ha' hm' 0 h h0 with kk | ⟨g', hh, ne, e, kk, s⟩
    · exact .inl (kk.app _)
    · by_cases gn : g' = n
      · subst gn; exact .inl (hkn kk)
      · exact .inr ⟨g', hh, ne, by simp [ne, gn, e], kk.app _, s⟩
  · have kn' : k ≠ n := fun e => by subst e; simp [k0] at hkk
    have hkk' : Ac k = some hk := by simpa [k0, kn'] using hkk
    rcases c.kn i a ha' hm' k hk hkk' with kk | ⟨g', hh, ne, e, kk, s⟩
    · exact .inl (kk.app _)
    · by_cases g0 : g' = 0
      · subst g0
        rw [h0] at e; cases e
        exact .inr ⟨0, h', ne, by simp, kk.app _, s.imp (up0 a) id⟩
      · by_cases gn : g' = n
        · subst gn
          rw [hn] at e; cases e
          exact .inr ⟨0, h', fun e => k0 e.symm, by simp, hkn kk, s.imp (upc a) id⟩
        · exact .inr ⟨g', hh, ne, by simp [g0, gn, e], kk.app _, s⟩

/-- The list of an own step. -/
theorem ofEvents_evOK {h : LH} {g : Nat} {fn : FuncId} {pos : String} {es : Array Event} (he : ∀ x ∈ es, EvOK h x) :
    (∀ op ∈ MemOp.ofEvents g fn pos es, op.g = g) ∧ (∀ op ∈ MemOp.ofEvents g fn pos es, ∀ m, op.act = .mark m → okMark m = true) ∧ (∀ op ∈ MemOp.ofEvents g fn pos es, ∀ b, op.act.touch? = some b → b.loc.isMemory = true → InT h b) := by
  refine ⟨fun op hop => ?_, fun op hop m hm => ?_, fun op hop b hb hmem => ?_⟩ <;> obtain ⟨e, hes, rfl⟩ := Conc.mem_ofEvents hop
  · rfl
  · have := he e hes
    obtain ⟨loc, wr, sy⟩ := e
    unfold EvOK at this
    cases loc with
    | mark m' =>
      have e1 : MemAct.ofEvent ⟨.mark m', wr, sy⟩ = .mark m' := by cases wr <;> cases sy <;> rfl
      rw [e1] at hm; cases hm
      exact this
    | _ => cases wr <;> cases sy <;> simp [MemAct.ofEvent] at hm
  · have := he e hes
    obtain ⟨loc, wr, sy⟩ := e
    unfold EvOK at this
    cases loc with
    | mark m' =>
      have e1 : MemAct.ofEvent ⟨.mark m', wr, sy⟩ = .mark m' := by cases wr <;> cases sy <;> rfl
      rw [e1] at hb
      cases m' <;> simp [okMark] at this <;> simp [MemAct.touch?] at hb
    | cell x =>
      cases wr <;> cases sy <;> simp [MemAct.ofEvent, MemAct.touch?] at hb <;> subst hb <;> exact this
    | obj x =>
      cases wr <;> cases sy <;> simp [MemAct.ofEvent, MemAct.touch?] at hb <;> subst hb <;> exact this
    | _ => exact this.elim

end Go.Lx

set_option linter.unusedSimpArgs false
namespace Go.Lx
open Go Go.Conc

/-- A receive's case; its channel may be nil. -/
def ocase (o : Option Nat) (z : Value) : CommCase := { chan := .chan o, send := none, zero := z }

section
variable (P : Program) (gs : Array Goroutine) (w : World) (sl : Option (Nat × Nat)) (i : Nat) (g g₂ : Goroutine) (es : Array Event) (cases : Array CommCase)

/-- What comes of it if case k is taken: it meets a sender, or finds the channel closed. -/
def SelTaken (k : Nat) (c : Nat) (z : Value) (R : Stepped × Trace) : Prop :=
  (∃ (d : Nat) (s r : Nat) (tm cl : Bool) (j : Nat) (gj : Goroutine) (v zj : Value) (shj : CommShape), j ≠ i ∧ gs[j]? = some (parked gj #[scase c v zj] shj) ∧ w.heap[c]? = some (.chan 0 #[] cl s r tm) ∧
    R = (.next (crowd ((gs.setIfInBounds j (gj.finishComm P #[scase c v zj] shj 0 undef false)).setIfInBounds i (g₂.finishComm P cases .select k v true)) ((w.at d).setChan c 0 #[] cl (s + 1) (r + 1) tm) sl),
      MemOp.ofEvents i g.frame.fn g.frame.place es ++ #[{ g := j, fn := gj.frame.fn, pos := gj.frame.place, act := .send c s }, { g := i, fn := g₂.frame.fn, pos := g₂.frame.place, act := .recv c r 0 },
        { g := j, fn := gj.frame.fn, pos := gj.frame.place, act := .sendDone c s }, { g := i, fn := g₂.frame.fn, pos := g₂.frame.place, act := .recvDone c r }])) ∨
  (∃ (d : Nat) (s r : Nat) (tm : Bool), w.heap[c]? = some (.chan 0 #[] true s r tm) ∧ partners (gs.setIfInBounds i ph) c true = [] ∧
    R = (.next (crowd (gs.setIfInBounds i (g₂.finishComm P cases .select k z false)) (w.at d) sl),
      MemOp.ofEvents i g.frame.fn g.frame.place es ++ #[{ g := i, fn := g₂.frame.fn, pos := g₂.frame.place, act := .recvClosed c }]))

/-- The case on channel c can be taken. -/
def Rdy (c : Nat) : Prop :=
  (∃ (s r : Nat) (tm cl : Bool) (j : Nat) (gj : Goroutine) (v zj : Value) (shj : CommShape), j ≠ i ∧ gs[j]? = some (parked gj #[scase c v zj] shj) ∧ w.heap[c]? = some (.chan 0 #[] cl s r tm) ∧ partners (gs.setIfInBounds i ph) c true = [(j, 0)]) ∨
  (∃ (s r : Nat) (tm : Bool), w.heap[c]? = some (.chan 0 #[] true s r tm) ∧ partners (gs.setIfInBounds i ph) c true = [])
end

section
variable {P : Program} {gs : Array Goroutine} {w w₁ : World} {sl : Option (Nat × Nat)} {i : Nat} {g g₂ : Goroutine} {es : Array Event} {c0 c1 : Nat} {z0 z1 : Value}

theorem sel_one (hi : gs[i]? = some g) {cases : Array CommCase} {k : Nat} {c : Nat} {z : Value} (h : stepG P (i == 0) g w = .comm g₂ cases true .select w₁ es) (hk : cases[k]? = some (rcase c z))
    (ho : ∀ (m : Nat) (c' : CommCase), m ≠ k → cases[m]? = some c' → NoWays w₁ (gs.setIfInBounds i ph) c') (r : Rdy gs w₁ i c) :
    SelTaken P gs w₁ sl i g g₂ es cases k c z (runT P (crowd gs w sl) i) := by
  rcases r with ⟨s, r, tm, cl, j, gj, v, zj, shj, n, e1, e2, e3⟩ | ⟨s, r, tm, e1, e2⟩
  · exact .inl ⟨w₁.drawn, s, r, tm, cl, j, gj, v, zj, shj, n, e1, e2, crowd_sel_recv_meets hi h hk ho e2 n e1 e3⟩
  · exact .inr ⟨w₁.drawn, s, r, tm, e1, e2, crowd_sel_recv_closed hi h hk ho e1 e2⟩

theorem rdy_made {c : Nat} {z : Value} (r : Rdy gs w₁ i c) : illMade w₁ (rcase c z) = false := by
  rcases r with ⟨s, r, tm, cl, j, gj, v, zj, shj, n, e1, e2, e3⟩ | ⟨s, r, tm, e1, e2⟩
  · exact made_recv z e2
  · exact made_recv z e1

theorem sel_both (hi : gs[i]? = some g) (h : stepG P (i == 0) g w = .comm g₂ #[rcase c0 z0, rcase c1 z1] true .select w₁ es) (r0 : Rdy gs w₁ i c0) (r1 : Rdy gs w₁ i c1) :
    SelTaken P gs w₁ sl i g g₂ es #[rcase c0 z0, rcase c1 z1] 0 c0 z0 (runT P (crowd gs w sl) i) ∨ SelTaken P gs w₁ sl i g g₂ es #[rcase c0 z0, rcase c1 z1] 1 c1 z1 (runT P (crowd gs w sl) i) := by
  rw [runT_crowd_comm hi h]
  have hill : (#[rcase c0 z0, rcase c1 z1] : Array CommCase).any (illMade w₁) = false := any_ill fun cc hcc => by
    simp at hcc
    rcases hcc with rfl | rfl
    · exact rdy_made r0
    · exact rdy_made r1
  have hcut : (Question.select 2).cut (w₁.tape w₁.drawn (.select 2)) = 0 ∨ (Question.select 2).cut (w₁.tape w₁.drawn (.select 2)) = 1 := by
    simp only [Question.cut]
    omega
  rcases r0 with ⟨s, r, tm, cl, j, gj, v, zj, shj, n, e1, e2, e3⟩ | ⟨s, r, tm, e2, e3⟩ <;> rcases r1 with ⟨s', r', tm', cl', j', gj', v', zj', shj', n', e1', e2', e3'⟩ | ⟨s', r', tm', e2', e3'⟩
  · have hj' := stand_get (i := i) n e1
    have hfp := finishPartner_at P (gs.setIfInBounds i ph) hj' (cs := #[scase c0 v zj]) (sh := shj) rfl 0 undef
    have hgd : (gs.setIfInBounds i ph).getD j default = parked gj #[scase c0 v zj] shj := by rw [Array.getD_eq_getD_getElem?, hj']; rfl
    have hov : offeredValue (gs.setIfInBounds i ph) j 0 = v := by simp [offeredValue, hj', parked, scase]
    have hj2 := stand_get (i := i) n' e1'
    have hfp2 := finishPartner_at P (gs.setIfInBounds i ph) hj2 (cs := #[scase c1 v' zj']) (sh := shj') rfl 0 undef
    have hgd2 : (gs.setIfInBounds i ph).getD j' default = parked gj' #[scase c1 v' zj'] shj' := by rw [Array.getD_eq_getD_getElem?, hj2]; rfl
    have hov2 : offeredValue (gs.setIfInBounds i ph) j' 0 = v' := by simp [offeredValue, hj2, parked, scase]
    have hw0 : ways w₁ (gs.setIfInBounds i ph) (rcase c0 z0) = [.partner j 0] := by simp [ways, rcase, e2, e3]
    have hw1 : ways w₁ (gs.setIfInBounds i ph) (rcase c1 z1) = [.partner j' 0] := by simp [ways, rcase, e2', e3']
    have hready : (((#[rcase c0 z0, rcase c1 z1] : Array CommCase).zipIdx.toList.map fun (c, k) => (k, c, ways w₁ (gs.setIfInBounds i ph) c)).filter fun (_, _, ws) => !ws.isEmpty) = [(0, rcase c0 z0, [.partner j 0]), (1, rcase c1 z1, [.partner j' 0])] := by simp [hw0, hw1]
    unfold communicate
    rw [if_neg (by rw [Bool.not_eq_true]; exact hill)]
    simp only [hready]
    rcases hcut with hq | hq
    · refine .inl (.inl ⟨w₁.drawn + 1, s, r, tm, cl, j, gj, v, zj, shj, n, e1, e2, ?_⟩)
      simp [choose, Sem.run, Question.forced, bind, Sem.bind, pure, hq, rcase, crowd, (show w₁.drew.heap[c0]? = _ from e2), hfp, hgd, hov, set_stand2, finishComm_parked, scase, parked, World.setChan, World.at]
      rfl
    · refine .inr (.inl ⟨w₁.drawn + 1, s', r', tm', cl', j', gj', v', zj', shj', n', e1', e2', ?_⟩)
      simp [choose, Sem.run, Question.forced, bind, Sem.bind, pure, hq, rcase, crowd, (show w₁.drew.heap[c1]? = _ from e2'), hfp2, hgd2, hov2, set_stand2, finishComm_parked, scase, parked, World.setChan, World.at]
      rfl
  · have hj' := stand_get (i := i) n e1
    have hfp := finishPartner_at P (gs.setIfInBounds i ph) hj' (cs := #[scase c0 v zj]) (sh := shj) rfl 0 undef
    have hgd : (gs.setIfInBounds i ph).getD j default = parked gj #[scase c0 v zj] shj := by rw [Array.getD_eq_getD_getElem?, hj']; rfl
    have hov : offeredValue (gs.setIfInBounds i ph) j 0 = v := by simp [offeredValue, hj', parked, scase]
    have hw0 : ways w₁ (gs.setIfInBounds i ph) (rcase c0 z0) = [.partner j 0] := by simp [ways, rcase, e2, e3]
    have hw1 : ways w₁ (gs.setIfInBounds i ph) (rcase c1 z1) = [.closed] := by simp [ways, rcase, e2', e3']
    have hready : (((#[rcase c0 z0, rcase c1 z1] : Array CommCase).zipIdx.toList.map fun (c, k) => (k, c, ways w₁ (gs.setIfInBounds i ph) c)).filter fun (_, _, ws) => !ws.isEmpty) = [(0, rcase c0 z0, [.partner j 0]), (1, rcase c1 z1, [.closed])] := by simp [hw0, hw1]
    unfold communicate
    rw [if_neg (by rw [Bool.not_eq_true]; exact hill)]
    simp only [hready]
    rcases hcut with hq | hq
    · refine .inl (.inl ⟨w₁.drawn + 1, s, r, tm, cl, j, gj, v, zj, shj, n, e1, e2, ?_⟩)
      simp [choose, Sem.run, Question.forced, bind, Sem.bind, pure, hq, rcase, crowd, (show w₁.drew.heap[c0]? = _ from e2), hfp, hgd, hov, set_stand2, finishComm_parked, scase, parked, World.setChan, World.at]
      rfl
    · refine .inr (.inr ⟨w₁.drawn + 1, s', r', tm', e2', e3', ?_⟩)
      simp [choose, Sem.run, Question.forced, bind, Sem.bind, pure, hq, rcase, crowd, World.at]
  · have hj2 := stand_get (i := i) n' e1'
    have hfp2 := finishPartner_at P (gs.setIfInBounds i ph) hj2 (cs := #[scase c1 v' zj']) (sh := shj') rfl 0 undef
    have hgd2 : (gs.setIfInBounds i ph).getD j' default = parked gj' #[scase c1 v' zj'] shj' := by rw [Array.getD_eq_getD_getElem?, hj2]; rfl
    have hov2 : offeredValue (gs.setIfInBounds i ph) j' 0 = v' := by simp [offeredValue, hj2, parked, scase]
    have hw0 : ways w₁ (gs.setIfInBounds i ph) (rcase c0 z0) = [.closed] := by simp [ways, rcase, e2, e3]
    have hw1 : ways w₁ (gs.setIfInBounds i ph) (rcase c1 z1) = [.partner j' 0] := by simp [ways, rcase, e2', e3']
    have hready : (((#[rcase c0 z0, rcase c1 z1] : Array CommCase).zipIdx.toList.map fun (c, k) => (k, c, ways w₁ (gs.setIfInBounds i ph) c)).filter fun (_, _, ws) => !ws.isEmpty) = [(0, rcase c0 z0, [.closed]), (1, rcase c1 z1, [.partner j' 0])] := by simp [hw0, hw1]
    unfold communicate
    rw [if_neg (by rw [Bool.not_eq_true]; exact hill)]
    simp only [hready]
    rcases hcut with hq | hq
    · refine .inl (.inr ⟨w₁.drawn + 1, s, r, tm, e2, e3, ?_⟩)
      simp [choose, Sem.run, Question.forced, bind, Sem.bind, pure, hq, rcase, crowd, World.at]
    · refine .inr (.inl ⟨w₁.drawn + 1, s', r', tm', cl', j', gj', v', zj', shj', n', e1', e2', ?_⟩)
      simp [choose, Sem.run, Question.forced, bind, Sem.bind, pure, hq, rcase, crowd, (show w₁.drew.heap[c1]? = _ from e2'), hfp2, hgd2, hov2, set_stand2, finishComm_parked, scase, parked, World.setChan, World.at]
      rfl
  · have hw0 : ways w₁ (gs.setIfInBounds i ph) (rcase c0 z0) = [.closed] := by simp [ways, rcase, e2, e3]
    have hw1 : ways w₁ (gs.setIfInBounds i ph) (rcase c1 z1) = [.closed] := by simp [ways, rcase, e2', e3']
    have hready : (((#[rcase c0 z0, rcase c1 z1] : Array CommCase).zipIdx.toList.map fun (c, k) => (k, c, ways w₁ (gs.setIfInBounds i ph) c)).filter fun (_, _, ws) => !ws.isEmpty) = [(0, rcase c0 z0, [.closed]), (1, rcase c1 z1, [.closed])] := by simp [hw0, hw1]
    unfold communicate
    rw [if_neg (by rw [Bool.not_eq_true]; exact hill)]
    simp only [hready]
    rcases hcut with hq | hq
    · refine .inl (.inr ⟨w₁.drawn + 1, s, r, tm, e2, e3, ?_⟩)
      simp [choose, Sem.run, Question.forced, bind, Sem.bind, pure, hq, rcase, crowd, World.at]
    · refine .inr (.inr ⟨w₁.drawn + 1, s', r', tm', e2', e3', ?_⟩)
      simp [choose, Sem.run, Question.forced, bind, Sem.bind, pure, hq, rcase, crowd, World.at]
end

/-- The case of a select cannot be taken. -/
def Idl (gs : Array Goroutine) (w : World) (i : Nat) (o : Option Nat) : Prop := ∀ z, NoWays w (gs.setIfInBounds i ph) (ocase o z)

/-- A SELECT OF TWO RECEIVES, one of which at least can be taken. -/
theorem sel_two {P : Program} {gs : Array Goroutine} {w w₁ : World} {sl : Option (Nat × Nat)} {i : Nat} {g g₂ : Goroutine} {es : Array Event} {o0 o1 : Option Nat} {z0 z1 : Value}
    (hi : gs[i]? = some g) (h : stepG P (i == 0) g w = .comm g₂ #[ocase o0 z0, ocase o1 z1] true .select w₁ es)
    (a0 : (∃ c, o0 = some c ∧ Rdy gs w₁ i c) ∨ Idl gs w₁ i o0) (a1 : (∃ c, o1 = some c ∧ Rdy gs w₁ i c) ∨ Idl gs w₁ i o1) (ne : (∃ c, o0 = some c ∧ Rdy gs w₁ i c) ∨ (∃ c, o1 = some c ∧ Rdy gs w₁ i c)) :
    (∃ c, o0 = some c ∧ SelTaken P gs w₁ sl i g g₂ es #[ocase o0 z0, ocase o1 z1] 0 c z0 (runT P (crowd gs w sl) i)) ∨ (∃ c, o1 = some c ∧ SelTaken P gs w₁ sl i g g₂ es #[ocase o0 z0, ocase o1 z1] 1 c z1 (runT P (crowd gs w sl) i)) := by
  rcases a0 with ⟨c0, rfl, r0⟩ | n0 <;> rcases a1 with ⟨c1, rfl, r1⟩ | n1
  · rcases sel_both (sl := sl) hi h r0 r1 with k | k
    · exact .inl ⟨c0, rfl, k⟩
    · exact .inr ⟨c1, rfl, k⟩
  · refine .inl ⟨c0, rfl, sel_one (k := 0) hi h rfl (fun m c' hm hc => ?_) r0⟩
    match m, hm, hc with
    | 1, _, hc => obtain rfl : ocase o1 z1 = c' := by simpa using hc
                  exact n1 z1
    | m + 2, _, hc => simp at hc
  · refine .inr ⟨c1, rfl, sel_one (k := 1) hi h rfl (fun m c' hm hc => ?_) r1⟩
    match m, hm, hc with
    | 0, _, hc => obtain rfl : ocase o0 z0 = c' := by simpa using hc
                  exact n0 z0
    | m + 2, _, hc => simp at hc
  · rcases ne with ⟨c, rfl, r⟩ | ⟨c, rfl, r⟩
    · refine .inl ⟨c, rfl, sel_one (k := 0) hi h rfl (fun m c' hm hc => ?_) r⟩
      match m, hm, hc with
      | 1, _, hc => obtain rfl : ocase o1 z1 = c' := by simpa using hc
                    exact n1 z1
      | m + 2, _, hc => simp at hc
    · refine .inr ⟨c, rfl, sel_one (k := 1) hi h rfl (fun m c' hm hc => ?_) r⟩
      match m, hm, hc with
      | 0, _, hc => obtain rfl : ocase o0 z0 = c' := by simpa using hc
                    exact n0 z0
      | m + 2, _, hc => simp at hc

end Go.Lx
