/-
  Lemmas towards the law, proved without conditions of their own: COMPANY, FIFTH PART: the moves at the channels, forks, leavers. No condition; COMPANY, SIXTH PART: a child closes its channel; the starter's select; forks; leavers. No condition.
-/
import Derived.Test.YtedaknlacigbhaaPk13
namespace Go.Lx
open Go Go.Conc

section
variable {P : Program} {B : Nat} {bo : Nat → Obj} {ch ix : Bool → Nat} {zz : Bool → Value} {h0 : LH} {w0 : World} {s : MS} {pk : Bool} {xs : Bool → KX} {gs : Array Goroutine} {w w' : World} {sl : Option (Nat × Nat)} {t : Trace} {q : Nat → Nat}

def PkOK (xs : Bool → KX) : Prop := ∀ b s g v z, xs b = .park s g v z → s.g = Conc.served (core g) undef

theorem not_blocked {P : Program} {n : Nat} {g : Goroutine} (h : QuitsIn P n g) : g.status ≠ .blocked := by
  rcases h.status with e | e <;> rw [e] <;> exact fun x => by cases x

/-- Nobody but the starter offers a receive. -/
theorem CInv.offRecv (c : CInv P B bo ch ix zz h0 w0 s pk xs gs w t q) (ro : RunOK xs) {j : Nat} {g : Goroutine} (hj : gs[j]? = some g) (j0 : j ≠ 0) (r : Nat) : offersAt g r false = [] := by
  rcases c.who hj with e | ⟨b, rfl⟩ | ⟨_, _, _, hq⟩
  · exact absurd e j0
  · have k := c.kid b
    cases e : xs b with
    | off vs k' => rw [e] at k; have : gs.size ≤ ix b := k; rw [Array.getElem?_eq_none this] at hj; cases hj
    | run x => rw [e] at k; have : gs[ix b]? = some x.g := k; rw [hj] at this; cases this; exact offersAt_of_not_blocked (by rw [ro b x e]; exact fun x => by cases x) _ _
    | park x g' v z => rw [e] at k; have : gs[ix b]? = some _ := k; rw [hj] at this; cases this; exact offersAt_parked_send' _ _ _ _ _ _
    | shut h' => rw [e] at k; obtain ⟨g', e1, e2, _⟩ := k; rw [hj] at e1; cases e1; exact offersAt_of_not_blocked (not_blocked e2) _ _
    | gone => rw [e] at k; obtain ⟨g', e1, e2⟩ := k; rw [hj] at e1; cases e1; exact offersAt_of_not_blocked (not_blocked e2) _ _
  · exact offersAt_of_not_blocked (not_blocked hq) _ _

theorem selCases_send (sd : Bool → Sd) (ch : Bool → Nat) (zz : Bool → Value) : ∀ cc ∈ selCases sd ch zz, cc.send = none := fun cc h => by
  simp [selCases] at h
  rcases h with rfl | rfl <;> rfl

/-- Nobody but a child that is parked there offers a send. -/
theorem CInv.offSend (c : CInv P B bo ch ix zz h0 w0 s pk xs gs w t q) (ro : RunOK xs) {j : Nat} {g : Goroutine} (hj : gs[j]? = some g) (r : Nat) (hn : ∀ b s g v z, j = ix b → xs b = .park s g v z → r ≠ ch b) : offersAt g r true = [] := by
  rcases c.who hj with rfl | ⟨b, rfl⟩ | ⟨_, _, _, hq⟩
  · obtain ⟨a0, e0, _, _, _, e4⟩ := c.at0
    rw [hj] at e0; cases e0
    cases pk with
    | false => have e4 : g.status = .running := e4; exact offersAt_of_not_blocked (by rw [e4]; exact fun x => by cases x) _ _
    | true =>
      have e4 : g = parked (core s.g) (selCases s.sd ch zz) .select := e4
      rw [e4]; exact offersAt_parked_sends (selCases_send _ _ _) _
  · have k := c.kid b
    cases e : xs b with
    | off vs k' => rw [e] at k; have : gs.size ≤ ix b := k; rw [Array.getElem?_eq_none this] at hj; cases hj
    | run x => rw [e] at k; have : gs[ix b]? = some x.g := k; rw [hj] at this; cases this; exact offersAt_of_not_blocked (by rw [ro b x e]; exact fun x => by cases x) _ _
    | park x g' v z =>
      rw [e] at k; have : gs[ix b]? = some _ := k; rw [hj] at this; cases this
      rw [offersAt_parked_send, if_neg (fun x => hn b _ _ _ _ rfl e x.symm)]
    | shut h' => rw [e] at k; obtain ⟨g', e1, e2, _⟩ := k; rw [hj] at e1; cases e1; exact offersAt_of_not_blocked (not_blocked e2) _ _
    | gone => rw [e] at k; obtain ⟨g', e1, e2⟩ := k; rw [hj] at e1; cases e1; exact offersAt_of_not_blocked (not_blocked e2) _ _
  · exact offersAt_of_not_blocked (not_blocked hq) _ _

theorem CInv.ixlt (c : CInv P B bo ch ix zz h0 w0 s pk xs gs w t q) {b : Bool} (h : ∀ vs k, xs b ≠ .off vs k) : ix b < gs.size := by
  have k := c.kid b
  cases e : xs b with
  | off vs k' => exact absurd e (h vs k')
  | run x => rw [e] at k; exact (Array.getElem?_eq_some_iff.1 (k : gs[ix b]? = some _)).1
  | park x g' v z => rw [e] at k; exact (Array.getElem?_eq_some_iff.1 (k : gs[ix b]? = some _)).1
  | shut h' => rw [e] at k; obtain ⟨g', e1, _⟩ := k; exact (Array.getElem?_eq_some_iff.1 e1).1
  | gone => rw [e] at k; obtain ⟨g', e1, _⟩ := k; exact (Array.getElem?_eq_some_iff.1 e1).1

theorem ixne (e : 0 < ix false ∧ ix true = ix false + 1) {b : Bool} {i : Nat} (h1 : i ≠ ix false) (h2 : i ≠ ix true) : ix b ≠ i := by cases b; exact fun x => h1 x.symm; exact fun x => h2 x.symm

theorem act_same (e : 0 < ix false ∧ ix true = ix false + 1) {h : LH} {b : Bool} {x : KX} (hx : x.ac = (xs b).ac) : Act 0 h ix (ud xs b x) = Act 0 h ix xs := by
  funext k
  by_cases hk : k = ix b
  · subst hk; rw [act_ix e, act_ix e, ud_same, hx]
  · exact act_ud e b _ hk

/-- (M3) A child waits at its send: the starter is not there. -/
theorem CInv.kidPark (c : CInv P B bo ch ix zz h0 w0 s false xs gs w t q) (ro : RunOK xs) {b : Bool} {v z : Value} {vs : List Value} {k : Nat} {g : Goroutine} {h : LH} {es : Array Event} (hx : xs b = .run ⟨v :: vs, k, g, h⟩)
    (hs : stepG P false g w = .comm (core g) #[scase (ch b) v z] true .send w es) (ev : ∀ x ∈ es, EvOK h x) :
    runT P (crowd gs w sl) (ix b) = (.next (crowd (gs.setIfInBounds (ix b) (parked (core g) #[scase (ch b) v z] .send)) w sl), MemOp.ofEvents (ix b) g.frame.fn g.frame.place es) ∧
    CInv P B bo ch ix zz h0 w0 s false (ud xs b (.park ⟨vs, k, Conc.served (core g) undef, h⟩ g v z)) (gs.setIfInBounds (ix b) (parked (core g) #[scase (ch b) v z] .send)) w (t ++ MemOp.ofEvents (ix b) g.frame.fn g.frame.place es) q := by
  have hi : gs[ix b]? = some g := by have := c.kid b; rw [hx] at this; exact this
  have hlt := (Array.getElem?_eq_some_iff.1 hi).1
  have i0 : (ix b == 0) = false := by simpa using ix_pos c.ix1 b
  obtain ⟨s', r', tm', hc⟩ : ∃ s r tm, w.heap[ch b]? = some (.chan 0 #[] false s r tm) := by have := c.chn b; rw [hx] at this; exact this
  have hp : partners (gs.setIfInBounds (ix b) ph) (ch b) false = [] := partners_nil fun j x hj => by
    rcases getElem?_stand gs (ix b) j x hj with ⟨_, rfl⟩ | ⟨ne, hj'⟩
    · exact offersAt_ph _ _
    · by_cases j0 : j = 0
      · subst j0
        obtain ⟨a0, e0, _, _, _, e4⟩ := c.at0
        rw [hj'] at e0; cases e0
        have e4 : x.status = .running := e4
        exact offersAt_of_not_blocked (by rw [e4]; exact fun x => by cases x) _ _
      · exact c.offRecv ro hj' j0 _
  refine ⟨crowd_waits hi (by rw [i0]; exact hs) fun cc hcc => ?_, ?_⟩
  · simp at hcc; subst hcc
    exact ways_send_none hc (Nat.zero_le _) hp
  · refine ⟨c.ix1, fun b' => ?_, ?_, fun e => absurd e (by decide), fun b' => ?_, fun i g' hi' h1 h2 hg => ?_, by simpa using c.low, fun b' => ?_, c.chd, ?_, ?_⟩
    · by_cases hb : b' = b
      · subst hb; rw [ud_same, ← c.sd b', hx]; rfl
      · rw [ud_ne xs _ hb]; exact c.sd b'
    · obtain ⟨a, e0, e1⟩ := c.at0
      exact ⟨a, by rw [Array.getElem?_setIfInBounds_ne (ix_pos c.ix1 b)]; exact e0, e1⟩
    · by_cases hb : b' = b
      · subst hb; rw [ud_same]; show (gs.setIfInBounds (ix b') _)[ix b']? = some _; rw [Array.getElem?_setIfInBounds_self_of_lt hlt]
      · rw [ud_ne xs _ hb]
        have ne : ix b ≠ ix b' := fun e => hb (ix_inj c.ix1 e).symm
        exact gOf_app (gOf_set (c.kid b') ne) (g_ofEvents ne)
    · rw [Array.getElem?_setIfInBounds_ne (ixne c.ix1 h1 h2)] at hg
      exact c.old i g' hi' h1 h2 hg
    · by_cases hb : b' = b
      · subst hb; rw [ud_same]; exact ⟨s', r', tm', hc⟩
      · rw [ud_ne xs _ hb]; exact c.chn b'
    · rw [shd_of (by rw [hx]; rfl)]; exact c.shd
    · rw [act_same c.ix1 (by rw [hx]; rfl)]
      exact c.wd.say (c.kidAc hx rfl) ev

theorem mute4 {i j : Nat} {f f' : FuncId} {p p' : String} {cc a b d : Nat} (f2 f3 : FuncId) (p2 p3 : String) (a1 a2 a3 a4 : MemAct) (h1 : a1 = .send cc a) (h2 : a2 = .recv cc b d) (h3 : a3 = .sendDone cc a) (h4 : a4 = .recvDone cc b) (g1 g2 g3 g4 : Nat) :
    (∀ op ∈ (#[⟨g1, f, p, a1⟩, ⟨g2, f', p', a2⟩, ⟨g3, f2, p2, a3⟩, ⟨g4, f3, p3, a4⟩] : Trace), op.act.touch? = none) ∧ (∀ op ∈ (#[⟨g1, f, p, a1⟩, ⟨g2, f', p', a2⟩, ⟨g3, f2, p2, a3⟩, ⟨g4, f3, p3, a4⟩] : Trace), ∀ m, op.act = .mark m → okMark m = true) := by
  subst h1 h2 h3 h4
  constructor
  · intro op h
    simp at h
    rcases h with rfl | rfl | rfl | rfl <;> rfl
  · intro op h m e
    simp at h
    rcases h with rfl | rfl | rfl | rfl <;> cases e

theorem setChan_put (w : World) (d c : Nat) (cl : Bool) (a b : Nat) (tm : Bool) (h : c < w.heap.size) : ((w.at d).setChan c 0 #[] cl a b tm).heap.size = w.heap.size ∧ ((w.at d).setChan c 0 #[] cl a b tm).heap[c]? = some (.chan 0 #[] cl a b tm) ∧ ∀ e, e ≠ c → ((w.at d).setChan c 0 #[] cl a b tm).heap[e]? = w.heap[e]? := by
  refine ⟨by simp [World.setChan, World.at], ?_, fun e ne => ?_⟩
  · show (w.heap.setIfInBounds c _)[c]? = _
    rw [Array.getElem?_setIfInBounds_self_of_lt h]
  · exact Array.getElem?_setIfInBounds_ne (fun x => ne x.symm)

theorem selCases_at {sd : Bool → Sd} {ch : Bool → Nat} {zz : Bool → Value} (b : Bool) : (selCases sd ch zz)[bIx b]? = some (ocase ((sd b).chan (ch b)) (zz b)) := by cases b <;> rfl

theorem chan_on {d : Sd} {c cc : Nat} (h : d.chan c = some cc) : cc = c ∧ ∃ vs, d = .on vs := by
  cases d with
  | on vs => simp [Sd.chan] at h; exact ⟨h.symm, vs, rfl⟩
  | _ => cases h

/-- Both are served: the child was at its send, the starter at its select; what comes of it, whoever came first. -/
theorem CInv.served (c : CInv P B bo ch ix zz h0 w0 s pk xs gs w t q) {b : Bool} {v : Value} {k0 : KS} {u1 : Trace} {cl : Bool} {d sn rn : Nat} {tm : Bool} {gs' : Array Goroutine} {g' : Goroutine}
    (hac : (xs b).ac = some k0.h) (hk : k0.k = (xs b).k) (hsd : s.sd b = .on (v :: k0.vs)) (hcl : ∃ s' r' tm', w.heap[ch b]? = some (.chan 0 #[] cl s' r' tm')) (ho : cl = false)
    (e0 : gs'[0]? = some g') (e1 : gs'[ix b]? = some k0.g) (e2 : ∀ j, j ≠ 0 → j ≠ ix b → gs'[j]? = gs[j]?) (e3 : gs'.size = gs.size) (er : g'.status = .running)
    (wd : Wd B ch h0 w0 (Act 0 s.h ix xs) w (t ++ u1)) (hu : ∀ op ∈ u1, op.g = 0 ∨ op.g = ix b) :
    CInv P B bo ch ix zz h0 w0 (s.turn b (.on k0.vs) g' s.h) false (ud xs b (.run k0)) gs' ((w.at d).setChan (ch b) 0 #[] cl sn rn tm) (t ++ u1) q := by
  subst ho
  have hoff : Offs B ch (ch b) := .inr ⟨b, rfl⟩
  have hlt := c.wd.lt (ch b) hoff
  obtain ⟨p1, p2, p3⟩ := setChan_put w d (ch b) false sn rn tm hlt
  refine ⟨c.ix1, fun b' => ?_, ⟨g', e0, rfl, rfl, rfl, er⟩, fun e => absurd e (by decide), fun b' => ?_, fun i x hi h1 h2 hg => ?_, by rw [e3]; exact c.low, fun b' => ?_, c.chd, ?_, ?_⟩
  · by_cases hb : b' = b
    · subst hb; rw [ud_same]; simp [MS.turn, KX.sd]
    · rw [ud_ne xs _ hb, c.sd b']; simp [MS.turn, hb]
  · by_cases hb : b' = b
    · subst hb; rw [ud_same]; exact e1
    · rw [ud_ne xs _ hb]
      have ne : ix b' ≠ ix b := fun e => hb (ix_inj c.ix1 e)
      have k := gOf_app (u := u1) (c.kid b') (fun op hop => by rcases hu op hop with x | x <;> rw [x]; exact (ix_pos c.ix1 b').symm; exact ne.symm)
      have hg := e2 (ix b') (ix_pos c.ix1 b') ne
      revert k
      cases xs b' with
      | off vs k' => unfold gOf; rw [e3]; exact id
      | _ => unfold gOf; rw [hg]; exact id
  · rw [e2 i (by omega) (ixne c.ix1 h1 h2).symm] at hg
    exact c.old i x hi h1 h2 hg
  · by_cases hb : b' = b
    · subst hb; rw [ud_same]; exact ⟨sn, rn, tm, p2⟩
    · rw [ud_ne xs _ hb]
      refine chOf_heap (p3 _ ?_) (c.chn b')
      cases b <;> cases b' <;> first | exact absurd rfl hb | exact c.chd.1 | exact c.chd.1.symm
  · rw [shd_of (x := .run k0) hk, p3 B (by cases b; exact c.chd.2.1.symm; exact c.chd.2.2.symm)]; exact c.shd
  · rw [act_same c.ix1 (by rw [hac]; rfl)]
    exact wd.put p1 (fun e ne => p3 e (fun x => ne (x ▸ hoff))) rfl rfl rfl

/-- (M4) A child's send meets the starter that is parked. -/
theorem CInv.kidMeet (c : CInv P B bo ch ix zz h0 w0 s true xs gs w t q) (ro : RunOK xs) {b : Bool} {v z : Value} {vs : List Value} {k : Nat} {g : Goroutine} {h : LH} {es : Array Event} (hx : xs b = .run ⟨v :: vs, k, g, h⟩)
    (hs : stepG P false g w = .comm (core g) #[scase (ch b) v z] true .send w es) (ev : ∀ x ∈ es, EvOK h x) :
    ∃ gs' w' u, runT P (crowd gs w sl) (ix b) = (.next (crowd gs' w' sl), u) ∧
    CInv P B bo ch ix zz h0 w0 (s.turn b (.on vs) (Conc.served (core s.g) (commResult (selCases s.sd ch zz) .select (bIx b) v true)) s.h) false (ud xs b (.run ⟨vs, k, Conc.served (core g) undef, h⟩)) gs' w' (t ++ u) q := by
  have hi : gs[ix b]? = some g := by have := c.kid b; rw [hx] at this; exact this
  have hlt := (Array.getElem?_eq_some_iff.1 hi).1
  have ip := ix_pos c.ix1 b
  have i0 : (ix b == 0) = false := by simpa using ip
  obtain ⟨s', r', tm', hc⟩ : ∃ s r tm, w.heap[ch b]? = some (.chan 0 #[] false s r tm) := by have := c.chn b; rw [hx] at this; exact this
  obtain ⟨a0, e0, _, _, _, e4⟩ := c.at0
  have e4 : a0 = parked (core s.g) (selCases s.sd ch zz) .select := e4
  subst e4
  have hsd : s.sd b = .on (v :: vs) := by rw [← c.sd b, hx]; rfl
  have hcase : (selCases s.sd ch zz)[bIx b]? = some (rcase (ch b) (zz b)) := by rw [selCases_at, hsd]; rfl
  have hp : partners (gs.setIfInBounds (ix b) ph) (ch b) false = [(0, bIx b)] := by
    rw [partners_one (j := 0) (by rw [Array.getElem?_setIfInBounds_ne ip]; exact e0) (fun j x j0 hj => ?_), offersAt_parked_at hcase (fun m cc hm hcc => ?_)]
    · rfl
    · have key : ∀ b', b' ≠ b → (s.sd b').chan (ch b') ≠ some (ch b) := fun b' hb e => by
        have := (chan_on e).1
        cases b <;> cases b' <;> first | exact hb rfl | exact c.chd.1 this | exact c.chd.1 this.symm
      have key2 : ∀ b', b' ≠ b → ∀ zz', (ocase ((s.sd b').chan (ch b')) zz').chan ≠ .chan (some (ch b)) := fun b' hb zz' e => key b' hb (Value.chan.inj e)
      match m, hcc with
      | 0, hcc =>
        obtain rfl : ocase ((s.sd false).chan (ch false)) (zz false) = cc := by simpa [selCases] using hcc
        exact key2 false (fun e => by subst e; exact hm rfl) _
      | 1, hcc =>
        obtain rfl : ocase ((s.sd true).chan (ch true)) (zz true) = cc := by simpa [selCases] using hcc
        exact key2 true (fun e => by subst e; exact hm rfl) _
      | m + 2, hcc => simp [selCases] at hcc
    · rcases getElem?_stand gs (ix b) j x hj with ⟨_, rfl⟩ | ⟨ne, hj'⟩
      · exact offersAt_ph _ _
      · exact c.offRecv ro hj' j0 _
  have hr := crowd_send_meets_sel (P := P) (sl := sl) hi (by rw [i0]; exact hs) hc ip.symm e0 hcase hp
  refine ⟨_, _, _, hr, ?_⟩
  obtain ⟨m1, m2⟩ := mute4 (i := 0) (j := 0) (f := (core g).frame.fn) (p := (core g).frame.place) (f' := (core s.g).frame.fn) (p' := (core s.g).frame.place) (cc := ch b) (a := s') (b := r') (d := 0) (core g).frame.fn (core s.g).frame.fn (core g).frame.place (core s.g).frame.place _ _ _ _ rfl rfl rfl rfl (ix b) 0 (ix b) 0
  refine c.served (k0 := ⟨vs, k, Conc.served (core g) undef, h⟩) (v := v) (d := w.drawn) (by rw [hx]; rfl) (by rw [hx]; rfl) hsd ⟨s', r', tm', hc⟩ rfl ?_ ?_ (fun j j0 jb => ?_) (by simp) ?_ ?_ (fun op hop => ?_)
  · rw [Array.getElem?_setIfInBounds_ne ip, Array.getElem?_setIfInBounds_self_of_lt c.zero_lt]; rfl
  · rw [Array.getElem?_setIfInBounds_self_of_lt (by simpa using hlt)]; rfl
  · rw [Array.getElem?_setIfInBounds_ne (fun e => jb e.symm), Array.getElem?_setIfInBounds_ne (fun e => j0 e.symm)]
  · rfl
  · rw [← Array.append_assoc]
    exact (c.wd.say (c.kidAc hx rfl) ev).mute m1 m2
  · rcases Array.mem_append.1 hop with h | h
    · obtain ⟨e, _, rfl⟩ := Conc.mem_ofEvents h; exact .inr rfl
    · simp at h
      rcases h with rfl | rfl | rfl | rfl
      · exact .inr rfl
      · exact .inl rfl
      · exact .inr rfl
      · exact .inl rfl
end

end Go.Lx

namespace Go.Lx
open Go Go.Conc
open Go.ConcN (upd upd_same upd_ne)

section
variable {P : Program} {B : Nat} {bo : Nat → Obj} {ch ix : Bool → Nat} {zz : Bool → Value} {h0 : LH} {w0 : World} {s : MS} {pk : Bool} {xs : Bool → KX} {gs : Array Goroutine} {w w' : World} {sl : Option (Nat × Nat)} {t : Trace} {q : Nat → Nat}

theorem shut_put (w : World) (c a b : Nat) (tm : Bool) (h : c < w.heap.size) : (w.shut c a b tm).heap.size = w.heap.size ∧ (w.shut c a b tm).heap[c]? = some (.chan 0 #[] true a b tm) ∧ ∀ e, e ≠ c → (w.shut c a b tm).heap[e]? = w.heap[e]? := by
  refine ⟨by simp [World.shut], ?_, fun e ne => ?_⟩
  · show (w.heap.setIfInBounds c _)[c]? = _
    rw [Array.getElem?_setIfInBounds_self_of_lt h]
  · exact Array.getElem?_setIfInBounds_ne (fun x => ne x.symm)

theorem again_sel_shut {g : Goroutine} {w : World} {sd : Bool → Sd} {ch : Bool → Nat} {zz : Bool → Value} {sh : CommShape} {b : Bool} {vs : List Value} (hb : sd b = .on vs) {a r : Nat} {tm : Bool} (hc : w.heap[ch b]? = some (.chan 0 #[] true a r tm)) :
    (parked g (selCases sd ch zz) sh).again w = { parked g (selCases sd ch zz) sh with status := .running } :=
  again_some_closed (k := bIx b) (c := ch b) (z := zz b) (by rw [selCases_at, hb]; rfl) hc

/-- (M5) A child closes its channel. -/
theorem CInv.kidShut (c : CInv P B bo ch ix zz h0 w0 s pk xs gs w t q) (ro : RunOK xs) {b : Bool} {g g' : Goroutine} {h : LH} {es : Array Event} {n : Nat} (hx : xs b = .run ⟨[], 0, g, h⟩) (hw : mayWake P g = true) {a r : Nat} {tm : Bool}
    (hc : w.heap[ch b]? = some (.chan 0 #[] false a r tm)) (hs : stepG P false g w = .go g' (w.shut (ch b) a r tm) (es.push ⟨.obj (ch b), true, true⟩)) (ev : ∀ x ∈ es, EvOK h x ∨ ShEv B ch x) (hq : QuitsIn P n g') :
    ∃ gs' u, runT P (crowd gs w sl) (ix b) = (.next (crowd gs' (w.shut (ch b) a r tm) sl), u) ∧ CInv P B bo ch ix zz h0 w0 s false (ud xs b (.shut h)) gs' (w.shut (ch b) a r tm) (t ++ u) (upd q (ix b) n) := by
  have hi : gs[ix b]? = some g := by have := c.kid b; rw [hx] at this; exact this
  have hlt := (Array.getElem?_eq_some_iff.1 hi).1
  have ip := ix_pos c.ix1 b
  have i0 : (ix b == 0) = false := by simpa using ip
  have hoff : Offs B ch (ch b) := .inr ⟨b, rfl⟩
  obtain ⟨p1, p2, p3⟩ := shut_put w (ch b) a r tm (c.wd.lt _ hoff)
  have hne : ∀ b', b' ≠ b → ch b' ≠ ch b := fun b' hb => by cases b <;> cases b' <;> first | exact absurd rfl hb | exact c.chd.1 | exact c.chd.1.symm
  have hch : ∀ b', b' ≠ b → chOf (w.shut (ch b) a r tm) (ch b') (xs b') := fun b' hb => chOf_heap (p3 _ (hne b' hb)) (c.chn b')
  have hr := runT_crowd_go (P := P) (sl := sl) hi (by rw [i0]; exact hs)
  refine ⟨_, _, hr, ?_⟩
  have hs1 : s.sd b = .on [] := by rw [← c.sd b, hx]; rfl
  have nb : (g'.status != .blocked && g'.status != .waiting) = true := by rcases hq.status with e | e <;> rw [e] <;> rfl
  have wok : ∀ o, woken P g g' (w.shut (ch b) a r tm) o = o.again (w.shut (ch b) a r tm) := fun o => by
    unfold woken
    rw [if_pos (by rw [hw]; simpa using nb)]
  have hmap : ∀ j, ix b ≠ j → ((gs.map (woken P g g' (w.shut (ch b) a r tm))).setIfInBounds (ix b) g')[j]? = (gs[j]?).map (·.again (w.shut (ch b) a r tm)) := fun j hj => by
    rw [Array.getElem?_setIfInBounds_ne hj, Array.getElem?_map]
    congr 1
    funext o
    exact wok o
  have hself : ((gs.map (woken P g g' (w.shut (ch b) a r tm))).setIfInBounds (ix b) g')[ix b]? = some g' := by rw [Array.getElem?_setIfInBounds_self_of_lt (by simpa using hlt)]
  have hops : MemOp.ofEvents (ix b) g.frame.fn g.frame.place (es.push ⟨.obj (ch b), true, true⟩) = MemOp.ofEvents (ix b) g.frame.fn g.frame.place es ++ #[{ g := ix b, fn := g.frame.fn, pos := g.frame.place, act := .close (ch b) }] := by
    rw [ofEvents_push, Array.push_eq_append]; rfl
  rw [hops, ← Array.append_assoc]
  have keepG : ∀ b', b' ≠ b → gOf P (ix b') ((gs.map (woken P g g' (w.shut (ch b) a r tm))).setIfInBounds (ix b) g') (t ++ MemOp.ofEvents (ix b) g.frame.fn g.frame.place es ++ #[{ g := ix b, fn := g.frame.fn, pos := g.frame.place, act := .close (ch b) }]) (ch b') (upd q (ix b) n) (xs b') := fun b' hb => by
    have ne : ix b' ≠ ix b := fun e => hb (ix_inj c.ix1 e)
    have k := gOf_app (u := #[{ g := ix b, fn := g.frame.fn, pos := g.frame.place, act := .close (ch b) }]) (gOf_app (c.kid b') (g_ofEvents (fn := g.frame.fn) (pos := g.frame.place) (es := es) ne.symm)) (fun op hop => by simp at hop; subst hop; exact ne.symm)
    have k := gOf_q (q' := upd q (ix b) n) k (upd_ne q n ne)
    have hm := hmap (ix b') ne.symm
    have hc' := hch b' hb
    revert k hc'
    cases hx' : xs b' with
    | off vs k' => intro k _; have k : gs.size ≤ ix b' := k; show ((gs.map _).setIfInBounds _ _).size ≤ _; simpa using k
    | run x => intro k _; show _ = _; rw [hm, show gs[ix b']? = some x.g from k]; simp [again_running _ (.inl (ro b' x hx'))]
    | park x g2 v z =>
      intro k hc'
      obtain ⟨s', r', tm', hh⟩ := hc'
      show _ = _; rw [hm, show gs[ix b']? = some _ from k]; simp [again_send_open hh]
    | shut h' =>
      intro k _
      obtain ⟨g1, e1, e2, e3⟩ := k
      exact ⟨g1, by rw [hm, e1]; simp [again_running _ e2.status], e2, e3⟩
    | gone =>
      intro k _
      obtain ⟨g1, e1, e2⟩ := k
      exact ⟨g1, by rw [hm, e1]; simp [again_running _ e2.status], e2⟩
  refine ⟨c.ix1, fun b' => ?_, ?_, fun e => absurd e (by decide), fun b' => ?_, fun i x hi' h1 h2 hg => ?_, by simpa using c.low, fun b' => ?_, c.chd, ?_, ?_⟩
  · by_cases hb : b' = b
    · subst hb; rw [ud_same, hs1]; rfl
    · rw [ud_ne xs _ hb]; exact c.sd b'
  · obtain ⟨a0, e0, e1, e2, e3, e4⟩ := c.at0
    have hm := hmap 0 ip
    rw [e0] at hm
    cases pk with
    | false =>
      have e4 : a0.status = .running := e4
      exact ⟨a0, by rw [hm]; simp [again_running _ (.inl e4)], e1, e2, e3, e4⟩
    | true =>
      have e4 : a0 = parked (core s.g) (selCases s.sd ch zz) .select := e4
      subst e4
      exact ⟨{ parked (core s.g) (selCases s.sd ch zz) .select with status := .running }, by rw [hm]; simp only [Option.map_some]; rw [again_sel_shut hs1 p2], rfl, rfl, rfl, rfl⟩
  · by_cases hb : b' = b
    · subst hb; rw [ud_same]
      have hz : (t ++ MemOp.ofEvents (ix b') g.frame.fn g.frame.place es ++ #[{ g := ix b', fn := g.frame.fn, pos := g.frame.place, act := .close (ch b') }])[(t ++ MemOp.ofEvents (ix b') g.frame.fn g.frame.place es).size]? = some { g := ix b', fn := g.frame.fn, pos := g.frame.place, act := .close (ch b') } := by
        rw [Array.getElem?_append_right (Nat.le_refl _)]; simp
      refine ⟨g', hself, by rw [upd_same]; exact hq, _, _, hz, rfl, rfl, fun j x hj _ => ?_⟩
      have := lt_size_of_getElem? hj
      rw [Array.size_append] at this
      simp only [List.size_toArray, List.length_singleton] at this
      omega
    · rw [ud_ne xs _ hb]; exact keepG b' hb
  · have ne := ixne (b := b) c.ix1 h1 h2
    rw [hmap i ne] at hg
    cases e : gs[i]? with
    | none => rw [e] at hg; cases hg
    | some y =>
      rw [e] at hg
      have hq' := c.old i y hi' h1 h2 e
      simp only [Option.map_some, Option.some.injEq, again_running _ hq'.status] at hg
      subst hg
      rw [upd_ne q n ne.symm]; exact hq'
  · by_cases hb : b' = b
    · subst hb; rw [ud_same]; exact ⟨a, r, tm, p2⟩
    · rw [ud_ne xs _ hb]; exact hch b' hb
  · rw [shd_of (by rw [hx]; rfl), p3 B (by cases b; exact c.chd.2.1.symm; exact c.chd.2.2.symm)]; exact c.shd
  · rw [act_same c.ix1 (by rw [hx]; rfl)]
    refine ((c.wd.say2 (c.kidAc hx rfl) ev).mute (fun op hop => ?_) (fun op hop m e => ?_)).put p1 (fun e ne => p3 e (fun x => ne (x ▸ hoff))) rfl rfl rfl
    · simp at hop; subst hop; rfl
    · simp at hop; subst hop; cases e

/-- (M8) One that only leaves. -/
theorem CInv.leave (c : CInv P B bo ch ix zz h0 w0 s pk xs gs w t q) (ro : RunOK xs) {i k : Nat} {g g' : Goroutine} (hi : gs[i]? = some g) (i0 : i ≠ 0) (hk : ∀ b, i = ix b → (∃ h, xs b = .shut h) ∨ xs b = .gone) (hs : ∀ w, stepG P false g w = .go g' w #[]) (hq : QuitsIn P k g') :
    runT P (crowd gs w sl) i = (.next (crowd (gs.setIfInBounds i g') w sl), #[]) ∧ CInv P B bo ch ix zz h0 w0 s pk xs (gs.setIfInBounds i g') w t (upd q i k) := by
  have e0 : (i == 0) = false := by simpa using i0
  have hlt := (Array.getElem?_eq_some_iff.1 hi).1
  have hr := runT_crowd_go (P := P) (sl := sl) hi (by rw [e0]; exact hs w)
  rw [c.calm ro c.chn, ofEvents_none] at hr
  refine ⟨hr, c.ix1, c.sd, ?_, c.park, fun b => ?_, fun j x hj h1 h2 hg => ?_, by simpa using c.low, c.chn, c.chd, c.shd, c.wd⟩
  · obtain ⟨a, e1, e2⟩ := c.at0
    exact ⟨a, by rw [Array.getElem?_setIfInBounds_ne i0]; exact e1, e2⟩
  · by_cases hb : i = ix b
    · subst hb
      have kd := c.kid b
      rcases hk b rfl with ⟨h, e⟩ | e
      · rw [e] at kd ⊢
        obtain ⟨g1, e1, e2, e3⟩ := kd
        exact ⟨g', by rw [Array.getElem?_setIfInBounds_self_of_lt hlt], by rw [upd_same]; exact hq, e3⟩
      · rw [e]
        exact ⟨g', by rw [Array.getElem?_setIfInBounds_self_of_lt hlt], by rw [upd_same]; exact hq⟩
    · exact gOf_q (gOf_set (c.kid b) hb) (upd_ne q k (fun e => hb e.symm))
  · by_cases e : i = j
    · subst e
      rw [Array.getElem?_setIfInBounds_self_of_lt hlt] at hg
      cases hg
      rw [upd_same]; exact hq
    · rw [Array.getElem?_setIfInBounds_ne e] at hg
      rw [upd_ne q k (fun x => e x.symm)]
      exact c.old j x hj h1 h2 hg

/-- (M7) A go statement. -/
theorem CInv.fork (c : CInv P B bo ch ix zz h0 w0 s false xs gs w t q) {b : Bool} {vs : List Value} {k : Nat} {a g' child : Goroutine} {hm hc : LH} {es : Array Event} (ha : gs[0]? = some a) (hsd : s.sd b = .off vs k) (hb1 : b = true → ∀ vs k, s.sd false ≠ .off vs k) (hg' : g'.status = .running)
    (hs : stepG P true a w = .spawn g' child w es) (ev : ∀ x ∈ es, EvOK s.h x) (j : Join hm hc s.h) :
    ∃ gs' u, runT P (crowd gs w sl) 0 = (.next (crowd gs' w sl), u) ∧ CInv P B bo ch ix zz h0 w0 (s.turn b (.on vs) g' hm) false (ud xs b (.run ⟨vs, k, child, hc⟩)) gs' w (t ++ u) q := by
  have hxb : xs b = .off vs k := by
    have := c.sd b
    rw [hsd] at this
    cases e : xs b <;> rw [e] at this <;> cases this
    rfl
  have hsz : gs.size = ix b := by
    have k1 := c.kid b
    rw [hxb] at k1
    have k1 : gs.size ≤ ix b := k1
    cases b with
    | false => have := c.low.1; omega
    | true =>
      have hn : ∀ vs k, xs false ≠ .off vs k := fun vs' k' e => hb1 rfl vs' k' (by rw [← c.sd false, e]; rfl)
      have := c.ixlt hn
      have := c.ix1
      omega
  have ip := ix_pos c.ix1 b
  have hr := runT_crowd_spawn (P := P) (sl := sl) (i := 0) ha (by exact hs)
  rw [hsz] at hr
  refine ⟨_, _, hr, ?_⟩
  have hops : ((MemOp.ofEvents 0 a.frame.fn a.frame.place es).push { g := 0, fn := a.frame.fn, pos := a.frame.place, act := .go (ix b) } |>.push { g := ix b, fn := child.frame.fn, pos := a.frame.place, act := .start }) =
      MemOp.ofEvents 0 a.frame.fn a.frame.place es ++ #[{ g := 0, fn := a.frame.fn, pos := a.frame.place, act := .go (ix b) }, { g := ix b, fn := child.frame.fn, pos := a.frame.place, act := .start }] := by
    apply Array.ext'; simp
  rw [hops, ← Array.append_assoc]
  have hlast : ((gs.setIfInBounds 0 g').push child)[ix b]? = some child := by
    have e : (gs.setIfInBounds 0 g').size = gs.size := by simp
    rw [← hsz, ← e]; simp only [Array.getElem?_push_size]
  have hold : ∀ i, i ≠ 0 → i < gs.size → ((gs.setIfInBounds 0 g').push child)[i]? = gs[i]? := fun i h0 hlt => by
    rw [Array.getElem?_push_lt (by simpa using hlt), ← Array.getElem?_eq_getElem, Array.getElem?_setIfInBounds_ne (fun e => h0 e.symm)]
  have z := c.zero_lt
  have hu : ∀ b', b' ≠ b → ∀ op ∈ (#[{ g := 0, fn := a.frame.fn, pos := a.frame.place, act := .go (ix b) }, { g := ix b, fn := child.frame.fn, pos := a.frame.place, act := .start }] : Trace), op.g ≠ ix b' := fun b' hb op hop => by
    simp at hop
    rcases hop with rfl | rfl
    · exact (ix_pos c.ix1 b').symm
    · exact fun e => hb (ix_inj c.ix1 e).symm
  refine ⟨c.ix1, fun b' => ?_, ⟨g', ?_, rfl, rfl, rfl, hg'⟩, fun e => absurd e (by decide), fun b' => ?_, fun i x hi' h1 h2 hg => ?_, ?_, fun b' => ?_, c.chd, ?_, ?_⟩
  · by_cases hb : b' = b
    · subst hb; rw [ud_same]; simp [MS.turn, KX.sd]
    · rw [ud_ne xs _ hb, c.sd b']; simp [MS.turn, hb]
  · rw [Array.getElem?_push_lt (by simpa using z)]
    simp
  · by_cases hb : b' = b
    · subst hb; rw [ud_same]; exact hlast
    · rw [ud_ne xs _ hb]
      have k1 := gOf_app (gOf_app (c.kid b') (g_ofEvents (fn := a.frame.fn) (pos := a.frame.place) (es := es) (ix_pos c.ix1 b').symm)) (hu b' hb)
      have key : (∀ vs k, xs b' ≠ .off vs k) → ((gs.setIfInBounds 0 g').push child)[ix b']? = gs[ix b']? := fun hn => hold _ (ix_pos c.ix1 b') (c.ixlt hn)
      revert k1 key
      cases e : xs b' with
      | off vs' k' =>
        intro k1 _
        show ((gs.setIfInBounds 0 g').push child).size ≤ ix b'
        simp only [Array.size_push, Array.size_setIfInBounds]
        have := c.ix1
        cases b with
        | false => cases b' with
          | false => exact absurd rfl hb
          | true => omega
        | true => cases b' with
          | false => exact absurd (by rw [← c.sd false, e]; rfl) (hb1 rfl vs' k')
          | true => exact absurd rfl hb
      | _ => intro k1 key; unfold gOf at *; rw [key (by intros; simp)]; exact k1
  · have hlt : i < gs.size := by
      rcases Nat.lt_or_ge i gs.size with h | h
      · exact h
      · exfalso
        rcases Nat.lt_or_ge gs.size i with h3 | h3
        · rw [Array.getElem?_eq_none (by simp; omega)] at hg; cases hg
        · exact ixne (b := b) c.ix1 h1 h2 (by omega)
    rw [hold i (by omega) hlt] at hg
    exact c.old i x hi' h1 h2 hg
  · simp only [Array.size_push, Array.size_setIfInBounds]
    have := c.ix1; have := c.low
    cases b <;> omega
  · by_cases hb : b' = b
    · subst hb; rw [ud_same]; have := c.chn b'; rw [hxb] at this; exact this
    · rw [ud_ne xs _ hb]; exact c.chn b'
  · rw [shd_of (by rw [hxb]; rfl)]; exact c.shd
  · exact (c.wd.say (fn := a.frame.fn) (pos := a.frame.place) act_zero ev).fork (n := ix b) act_zero (by rw [act_ix c.ix1, hxb]; rfl) ip j rfl rfl rfl rfl act_zero (by rw [act_ix c.ix1, ud_same]; rfl) (fun k hk0 hk => by rw [act_ud c.ix1 b _ hk]; exact act_h hm hk0)

/-- Where a case stands. -/
theorem CInv.sits (c : CInv P B bo ch ix zz h0 w0 s false xs gs w t q) (ro : RunOK xs) (b : Bool) (lv : (s.sd b).live = true) :
    ((∃ x, xs b = .run x) ∨ xs b = .gone) ∧ Idl gs w 0 ((s.sd b).chan (ch b)) ∨ ((∃ k g v z, xs b = .park k g v z) ∨ ∃ h, xs b = .shut h) ∧ ∃ cc, (s.sd b).chan (ch b) = some cc ∧ Rdy gs w 0 cc := by
  have hsd := c.sd b
  have hcn := c.chn b
  have none_ : (∀ k g v z, xs b ≠ .park k g v z) → partners (gs.setIfInBounds 0 ph) (ch b) true = [] := fun hn => partners_nil fun j x hj => by
    rcases getElem?_stand gs 0 j x hj with ⟨_, rfl⟩ | ⟨ne, hj'⟩
    · exact offersAt_ph _ _
    · refine c.offSend ro hj' _ fun b' k g v z e1 e2 e3 => ?_
      have : b' = b := by cases b <;> cases b' <;> first | rfl | exact absurd e3 c.chd.1 | exact absurd e3.symm c.chd.1
      subst this
      exact hn k g v z e2
  cases e : xs b with
  | off vs k => rw [e] at hsd; rw [← hsd] at lv; cases lv
  | run x =>
    refine .inl ⟨.inl ⟨x, rfl⟩, fun z' => ?_⟩
    rw [e] at hsd hcn
    obtain ⟨a, r, tm, hh⟩ := hcn
    rw [← hsd]
    exact ways_recv_none hh (none_ (by rw [e]; intros; simp))
  | gone =>
    refine .inl ⟨.inr rfl, fun z' => ?_⟩
    rw [e] at hsd
    rw [← hsd]
    exact ways_nil none
  | shut h =>
    refine .inr ⟨.inr ⟨h, rfl⟩, ch b, by rw [← hsd, e]; rfl, .inr ?_⟩
    rw [e] at hcn
    obtain ⟨a, r, tm, hh⟩ := hcn
    exact ⟨a, r, tm, hh, none_ (by rw [e]; intros; simp)⟩
  | park k g v z =>
    refine .inr ⟨.inl ⟨k, g, v, z, rfl⟩, ch b, by rw [← hsd, e]; rfl, .inl ?_⟩
    have kd := c.kid b
    rw [e] at hcn kd
    obtain ⟨a, r, tm, hh⟩ := hcn
    have kd : gs[ix b]? = some (parked (core g) #[scase (ch b) v z] .send) := kd
    refine ⟨a, r, tm, false, ix b, core g, v, z, .send, ix_pos c.ix1 b, kd, hh, ?_⟩
    rw [partners_one (j := ix b) (by rw [Array.getElem?_setIfInBounds_ne (ix_pos c.ix1 b).symm]; exact kd) (fun j x jb hj => ?_), offersAt_parked_send, if_pos rfl]
    · rfl
    · rcases getElem?_stand gs 0 j x hj with ⟨_, rfl⟩ | ⟨ne, hj'⟩
      · exact offersAt_ph _ _
      · refine c.offSend ro hj' _ fun b' k' g' v' z' e1 e2 e3 => ?_
        have : b' = b := by cases b <;> cases b' <;> first | rfl | exact absurd e3 c.chd.1 | exact absurd e3.symm c.chd.1
        subst this
        exact jb e1

/-- (M6a) The starter waits. -/
theorem CInv.wait (c : CInv P B bo ch ix zz h0 w0 s false xs gs w t q) {a : Goroutine} {es : Array Event} (ha : gs[0]? = some a) (hs : stepG P true a w = .comm (core s.g) (selCases s.sd ch zz) true .select w es) (ev : ∀ x ∈ es, EvOK s.h x)
    (hi : ∀ b, ((∃ x, xs b = .run x) ∨ xs b = .gone) ∧ Idl gs w 0 ((s.sd b).chan (ch b))) (hon : ∃ b vs, s.sd b = .on vs) (hst : ∀ w, s.h.Sub w → ∃ es, stepG P true s.g w = .comm (core s.g) (selCases s.sd ch zz) true .select w es) :
    ∃ gs' u, runT P (crowd gs w sl) 0 = (.next (crowd gs' w sl), u) ∧ gs'.size = gs.size ∧ CInv P B bo ch ix zz h0 w0 s true xs gs' w (t ++ u) q := by
  have hr := crowd_waits (P := P) (sl := sl) (i := 0) ha hs (fun cc hcc => by
    simp [selCases] at hcc
    rcases hcc with rfl | rfl
    · exact (hi false).2 _
    · exact (hi true).2 _)
  refine ⟨_, _, hr, by simp, c.ix1, c.sd, ⟨parked (core s.g) (selCases s.sd ch zz) .select, by rw [Array.getElem?_setIfInBounds_self_of_lt c.zero_lt], rfl, rfl, rfl, rfl⟩, fun _ => ⟨fun b => (hi b).1, ?_, hst⟩, fun b => gOf_app (gOf_set (c.kid b) (ix_pos c.ix1 b).symm) (g_ofEvents (ix_pos c.ix1 b).symm), fun i g hi' h1 h2 hg => ?_, by simpa using c.low, c.chn, c.chd, c.shd, c.wd.say act_zero ev⟩
  · obtain ⟨b, vs, e⟩ := hon
    rcases (hi b).1 with ⟨x, hx⟩ | hx
    · exact ⟨b, x, hx⟩
    · have := c.sd b
      rw [hx, e] at this; cases this
  · rw [Array.getElem?_setIfInBounds_ne (by omega)] at hg
    exact c.old i g hi' h1 h2 hg

theorem parked_inj {g g' : Goroutine} {cs cs' : Array CommCase} {sh sh' : CommShape} (h : parked g cs sh = parked g' cs' sh') : cs = cs' ∧ sh = sh' ∧ g.frame = g'.frame ∧ g.callers = g'.callers ∧ g.dying = g'.dying := by
  simp only [parked, Goroutine.mk.injEq, Option.some.injEq, Prod.mk.injEq] at h
  exact ⟨h.2.2.2.2.1, h.2.2.2.2.2, h.1, h.2.1, h.2.2.2.1⟩

/-- (M6b) The starter takes what there is. -/
theorem CInv.take (c : CInv P B bo ch ix zz h0 w0 s false xs gs w t q) (ro : RunOK xs) (po : PkOK xs) {a : Goroutine} {es : Array Event} (ha : gs[0]? = some a) (ev : ∀ x ∈ es, EvOK s.h x) {b : Bool} {cc : Nat} (hcc : (s.sd b).chan (ch b) = some cc)
    (hk : SelTaken P gs w sl 0 a (core s.g) es (selCases s.sd ch zz) (bIx b) cc (zz b) (runT P (crowd gs w sl) 0)) :
    (∃ k g v z gs' w' u, xs b = .park k g v z ∧ runT P (crowd gs w sl) 0 = (.next (crowd gs' w' sl), u) ∧
      CInv P B bo ch ix zz h0 w0 (s.turn b (.on k.vs) (Conc.served (core s.g) (commResult (selCases s.sd ch zz) .select (bIx b) v true)) s.h) false (ud xs b (.run k)) gs' w' (t ++ u) q) ∨
    (∃ h h' gs' w' u, xs b = .shut h ∧ Join s.h h h' ∧ runT P (crowd gs w sl) 0 = (.next (crowd gs' w' sl), u) ∧
      CInv P B bo ch ix zz h0 w0 (s.turn b .gone (Conc.served (core s.g) (commResult (selCases s.sd ch zz) .select (bIx b) (zz b) false)) h') false (ud xs b .gone) gs' w' (t ++ u) q) := by
  obtain ⟨rfl, vs, hsd⟩ := chan_on hcc
  have ip := ix_pos c.ix1 b
  rcases hk with ⟨d, sn, rn, tm, cl, j, gj, v, zj, shj, j0, hj, hh, hr⟩ | ⟨d, sn, rn, tm, hh, hp, hr⟩
  · -- it meets a sender: who is it?
    obtain ⟨k, g, v', z', hx, hjb, hpk⟩ : ∃ k g v' z', xs b = .park k g v' z' ∧ j = ix b ∧ parked (core g) #[scase (ch b) v' z'] .send = parked gj #[scase (ch b) v zj] shj := by
      rcases c.who hj with e | ⟨b', rfl⟩ | ⟨_, _, _, hq⟩
      · exact absurd e j0
      · have kd := c.kid b'
        cases e : xs b' with
        | off vs k' => rw [e] at kd; have : gs.size ≤ ix b' := kd; rw [Array.getElem?_eq_none this] at hj; cases hj
        | run x => rw [e] at kd; have : gs[ix b']? = some x.g := kd; rw [hj] at this; have h1 := ro b' x e; rw [← Option.some.inj this] at h1; cases h1
        | shut h' => rw [e] at kd; obtain ⟨g', e1, e2, _⟩ := kd; rw [hj] at e1; exact absurd rfl (Option.some.inj e1 ▸ not_blocked e2)
        | gone => rw [e] at kd; obtain ⟨g', e1, e2⟩ := kd; rw [hj] at e1; exact absurd rfl (Option.some.inj e1 ▸ not_blocked e2)
        | park k g v' z' =>
          rw [e] at kd
          have kd : gs[ix b']? = some (parked (core g) #[scase (ch b') v' z'] .send) := kd
          rw [hj] at kd
          have hpk := (Option.some.inj kd).symm
          have e5 := (parked_inj hpk).1
          simp only [scase, Array.mk.injEq, List.cons.injEq, and_true, CommCase.mk.injEq, Value.chan.injEq, Option.some.injEq] at e5
          have : b' = b := by cases b <;> cases b' <;> first | rfl | exact absurd e5.1 c.chd.1 | exact absurd e5.1.symm c.chd.1
          subst this
          exact ⟨k, g, v', z', e, rfl, hpk⟩
      · exact absurd rfl (not_blocked hq)
    subst hjb
    obtain ⟨e5, e6, e7, e8, e9⟩ := parked_inj hpk
    simp only [scase, Array.mk.injEq, List.cons.injEq, and_true, CommCase.mk.injEq, Option.some.injEq, true_and] at e5
    obtain ⟨rfl, rfl⟩ := e5
    subst e6
    refine .inl ⟨k, g, v', z', _, _, _, hx, hr, ?_⟩
    obtain ⟨a', r', tm', hh'⟩ : ∃ s r tm, w.heap[ch b]? = some (.chan 0 #[] false s r tm) := by have := c.chn b; rw [hx] at this; exact this
    have hlt := c.ixlt (b := b) (by rw [hx]; intros; simp)
    obtain ⟨m1, m2⟩ := mute4 (i := 0) (j := 0) (f := gj.frame.fn) (p := gj.frame.place) (f' := (core s.g).frame.fn) (p' := (core s.g).frame.place) (cc := ch b) (a := sn) (b := rn) (d := 0) gj.frame.fn (core s.g).frame.fn gj.frame.place (core s.g).frame.place _ _ _ _ rfl rfl rfl rfl (ix b) 0 (ix b) 0
    refine c.served (k0 := k) (v := v') (d := d) (by rw [hx]; rfl) (by rw [hx]; rfl) (by rw [← c.sd b, hx]; rfl) ⟨sn, rn, tm, hh⟩ (by rw [hh] at hh'; cases hh'; rfl) ?_ ?_ (fun i i0 ib => ?_) (by simp) rfl ?_ (fun op hop => ?_)
    · rw [Array.getElem?_setIfInBounds_self_of_lt (by simpa using c.zero_lt)]; rfl
    · rw [Array.getElem?_setIfInBounds_ne ip.symm, Array.getElem?_setIfInBounds_self_of_lt hlt, po b k g v' z' hx]
      show some (Conc.served gj undef) = some (Conc.served (core g) undef)
      unfold Conc.served
      rw [e7, e8, e9]
    · rw [Array.getElem?_setIfInBounds_ne (fun e => i0 e.symm), Array.getElem?_setIfInBounds_ne (fun e => ib e.symm)]
    · rw [← Array.append_assoc]
      exact (c.wd.say act_zero ev).mute m1 m2
    · rcases Array.mem_append.1 hop with h | h
      · obtain ⟨e, _, rfl⟩ := Conc.mem_ofEvents h; exact .inl rfl
      · simp at h
        rcases h with rfl | rfl | rfl | rfl
        · exact .inr rfl
        · exact .inl rfl
        · exact .inr rfl
        · exact .inl rfl
  · -- it finds the channel closed
    obtain ⟨h, hx⟩ : ∃ h, xs b = .shut h := by
      have hs := c.sd b
      have hcn := c.chn b
      cases e : xs b with
      | off vs k => rw [e, hsd] at hs; cases hs
      | run x => rw [e] at hcn; obtain ⟨_, _, _, h2⟩ := hcn; rw [hh] at h2; cases h2
      | park k g v z => rw [e] at hcn; obtain ⟨_, _, _, h2⟩ := hcn; rw [hh] at h2; cases h2
      | shut h => exact ⟨h, rfl⟩
      | gone => rw [e, hsd] at hs; cases hs
    have kd := c.kid b
    rw [hx] at kd
    obtain ⟨g1, e1, e2, qc, z, z0, z1, z2, z3⟩ := kd
    let h' : LH := fun x => match s.h x with | some y => some y | none => h x
    have hj : Join s.h h h' := fun x => by
      cases e3 : s.h x with
      | none => exact .inl ⟨rfl, by simp [h', e3]⟩
      | some po =>
        cases e4 : h x with
        | none => exact .inr (.inl ⟨rfl, by simp [h', e3]⟩)
        | some po' =>
          obtain ⟨p, o⟩ := po
          obtain ⟨p', o'⟩ := po'
          obtain ⟨rfl, rfl, rfl⟩ := c.wd.two 0 (ix b) s.h h ip.symm act_zero (c.kidAc hx rfl) x p o p' o' e3 e4
          exact .inr (.inr ⟨o', rfl, rfl, by simp [h', e3]⟩)
    refine .inr ⟨h, h', _, _, _, hx, hj, hr, ?_⟩
    have hoff : Offs B ch (ch b) := .inr ⟨b, rfl⟩
    have w1 := (c.wd.say (fn := a.frame.fn) (pos := a.frame.place) act_zero ev)
    have hz0 : (t ++ MemOp.ofEvents 0 a.frame.fn a.frame.place es)[qc]? = some z := by rw [getElem?_append_old (lt_size_of_getElem? z0)]; exact z0
    have hzl : ∀ (i : Nat) (x : MemOp), (t ++ MemOp.ofEvents 0 a.frame.fn a.frame.place es)[i]? = some x → x.g = ix b → i ≤ qc := fun i x hi hg => by
      rcases getElem?_append_cases hi with ⟨_, hi'⟩ | ⟨_, hm⟩
      · exact z3 i x hi' hg
      · exact absurd hg (g_ofEvents ip.symm x hm)
    have w2 := (w1.join (n := ix b) (Ac' := Act 0 h' ix (ud xs b .gone)) (y := { g := 0, fn := (core s.g).frame.fn, pos := (core s.g).frame.place, act := .recvClosed (ch b) }) act_zero (c.kidAc hx rfl) ip hj hz0 z1 z2 hzl rfl rfl act_zero (by rw [act_ix c.ix1, ud_same]; rfl) (fun k k0 kb => by rw [act_ud c.ix1 b _ kb]; exact act_h h' k0)).at d
    rw [← Array.append_assoc]
    refine ⟨c.ix1, fun b' => ?_, ⟨_, by rw [Array.getElem?_setIfInBounds_self_of_lt c.zero_lt]; rfl, rfl, rfl, rfl, rfl⟩, fun e => absurd e (by decide), fun b' => ?_, fun i g' hi' h1 h2 hg => ?_, by simpa using c.low, fun b' => ?_, c.chd, ?_, w2⟩
    · by_cases hb : b' = b
      · subst hb; rw [ud_same]; simp [MS.turn, KX.sd]
      · rw [ud_ne xs _ hb, c.sd b']; simp [MS.turn, hb]
    · by_cases hb : b' = b
      · subst hb; rw [ud_same]; exact ⟨g1, by rw [Array.getElem?_setIfInBounds_ne ip.symm]; exact e1, e2⟩
      · rw [ud_ne xs _ hb]
        have i0 := (ix_pos c.ix1 b').symm
        exact gOf_app (gOf_app (gOf_set (c.kid b') i0) (g_ofEvents i0)) (fun op hop => by simp at hop; subst hop; exact i0)
    · rw [Array.getElem?_setIfInBounds_ne (by omega)] at hg
      exact c.old i g' hi' h1 h2 hg
    · by_cases hb : b' = b
      · subst hb; rw [ud_same]; exact ⟨_, hh⟩
      · rw [ud_ne xs _ hb]; exact c.chn b'
    · rw [shd_of (by rw [hx]; rfl)]; exact c.shd
end

end Go.Lx
