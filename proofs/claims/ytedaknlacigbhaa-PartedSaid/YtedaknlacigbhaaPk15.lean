/-
  Lemmas towards the law, proved without conditions of their own: COMPANY, SEVENTH PART: the starter and its two children, composed, on every tape: the starter comes to its stop, the children only leave. No condition; COMPANY, EIGHTH PART: episodes: from one idle moment of the machine to another; a goroutine's way with episodes, up to the return. No condition; The sort, 1: less, the insertion sort.
-/
import Derived.Test.YtedaknlacigbhaaPk14
import Derived.DuoClaim
import Derived.Test.YtedaknlacigbhaaPk07
import Derived.Test.YtedaknlacigbhaaPk08
namespace Go.Lx
open Go Go.Conc
open Go.ConcN (upd upd_same upd_ne sumTo sumTo_upd)

theorem StepOK.imp {P : Program} {main : Bool} {g : Goroutine} {h : LH} {K K' : Goroutine → LH → Prop} (k : StepOK P main g h K) (f : ∀ g h, K g h → K' g h) : StepOK P main g h K' := fun w hw => by
  obtain ⟨fr, cs, w', h', es, e, u, ev, kk⟩ := k w hw
  exact ⟨fr, cs, w', h', es, e, u, ev, f _ _ kk⟩

theorem KidStep.imp {P : Program} {B : Nat} {bo : Nat → Obj} {ch : Bool → Nat} {c : Nat} {Fin : LH → Prop} {N N' : KX → Prop} {x : KX} (k : KidStep P B bo ch c Fin N x) (f : ∀ y, N y → N' y) : KidStep P B bo ch c Fin N' x := by
  cases k with
  | own st => exact .own (st.imp fun _ _ => f _)
  | rd st => exact .rd fun w m hw hb => by obtain ⟨fr, cs, es, e, ev, k⟩ := st w m hw hb; exact ⟨fr, cs, es, e, ev, f _ k⟩
  | add st => exact .add fun w m hw hb => by obtain ⟨fr, cs, es, e, ev, k⟩ := st w m hw hb; exact ⟨fr, cs, es, e, ev, f _ k⟩
  | send z st n1 n2 => exact .send z st (f _ n1) (f _ n2)
  | shut hw st n => exact .shut hw st (f _ n)
  | park e n => exact .park e (f _ n)
  | gone hf n => exact .gone hf (f _ n)
  | off => exact .off
  | done => exact .done

section
variable (P : Program) (B : Nat) (bo : Nat → Obj) (ch ix : Bool → Nat) (zz : Bool → Value) (Fin : Bool → LH → Prop) (K : Goroutine → LH → Prop) (h0 : LH) (w0 : World)

/-- The starter stands at its stop; its children are gone. -/
def Reach (gs : Array Goroutine) (w : World) (sl : Option (Nat × Nat)) (t : Trace) : Prop :=
  ∃ (N : Nat) (gs' : Array Goroutine) (w' : World) (sl' : Option (Nat × Nat)) (t' : Trace) (s' : MS) (q' : Nat → Nat), runNT P N (crowd gs w sl) t = (.next (crowd gs' w' sl'), t') ∧
    CInv P B bo ch ix zz h0 w0 s' false (fun _ => .gone) gs' w' t' q' ∧ K s'.g s'.h ∧ s'.g.status = .running

def GR (s : MS) (xs : Bool → KX) : Prop := ∀ pk gs w sl t q, CInv P B bo ch ix zz h0 w0 s pk xs gs w t q → Reach P B bo ch ix zz K h0 w0 gs w sl t
end

section
variable {P : Program} {B : Nat} {bo : Nat → Obj} {ch ix : Bool → Nat} {zz : Bool → Value} {Fin : Bool → LH → Prop} {K : Goroutine → LH → Prop} {h0 : LH} {w0 : World}

theorem Reach.step {gs gs' : Array Goroutine} {w w1 w' : World} {sl sl1 : Option (Nat × Nat)} {t u : Trace} {i : Nat} (hst : stepT P (crowd gs w sl) = runT P (crowd gs w1 sl1) i) (hr : runT P (crowd gs w1 sl1) i = (.next (crowd gs' w' sl1), u))
    (k : Reach P B bo ch ix zz K h0 w0 gs' w' sl1 (t ++ u)) : Reach P B bo ch ix zz K h0 w0 gs w sl t := by
  obtain ⟨N, gs2, w2, sl2, t2, s2, q2, e1, e2⟩ := k
  exact ⟨N + 1, gs2, w2, sl2, t2, s2, q2, by rw [runNT_succ_next (hst.trans hr)]; exact e1, e2⟩

theorem quits_step {n : Nat} {g : Goroutine} (h : QuitsIn P n g) (hr : g.status = .running) : ∃ k g', n = k + 1 ∧ (∀ w, stepG P false g w = .go g' w #[]) ∧ QuitsIn P k g' := by
  cases n with
  | zero => rw [show g.status = .finished from h] at hr; cases hr
  | succ n =>
    rcases h with h | ⟨_, g', h1, h2⟩
    · rw [h] at hr; cases hr
    · exact ⟨n, g', rfl, h1, h2⟩

theorem company_node {s : MS} (Nm : MS → Prop) (hrun : s.g.status = .running) (hstep : MainStep P B bo ch zz Fin K Nm s) (ihm : ∀ y, Nm y → ∀ xs, (∀ b, Kid P B bo ch (ch b) (Fin b) (xs b)) → GR P B bo ch ix zz K h0 w0 y xs)
    {xs : Bool → KX} (hk : ∀ b, Kid P B bo ch (ch b) (Fin b) (xs b)) (ro : RunOK xs) (po : PkOK xs) (stK : ∀ b, KidStep P B bo ch (ch b) (Fin b) (fun y => GR P B bo ch ix zz K h0 w0 s (ud xs b y) ∧ Kid P B bo ch (ch b) (Fin b) y) (xs b)) :
    GR P B bo ch ix zz K h0 w0 s xs := by
  have body : ∀ n, (∀ m, m < n → ∀ pk gs w sl t q, CInv P B bo ch ix zz h0 w0 s pk xs gs w t q → sumTo gs.size q + (if pk then 0 else 1) ≤ m → Reach P B bo ch ix zz K h0 w0 gs w sl t) →
      ∀ pk gs w sl t q, CInv P B bo ch ix zz h0 w0 s pk xs gs w t q → sumTo gs.size q + (if pk then 0 else 1) ≤ n → Reach P B bo ch ix zz K h0 w0 gs w sl t := by
    intro n ihn pk gs w sl t q c hle
    -- the end
    by_cases hdone : (∀ b, s.sd b = .gone) ∧ K s.g s.h
    · have hx : ∀ b, xs b = .gone := fun b => by
        have := c.sd b
        rw [hdone.1 b] at this
        cases e : xs b <;> rw [e] at this <;> cases this
      have hpk : pk = false := by
        cases pk with
        | false => rfl
        | true => obtain ⟨_, ⟨b, x, e⟩, _⟩ := c.park rfl; rw [hx b] at e; cases e
      subst hpk
      have : xs = fun _ => .gone := funext hx
      subst this
      exact ⟨0, gs, w, sl, t, s, q, rfl, c, hdone.2, hrun⟩
    -- who moves
    obtain ⟨a0, ha0, f1, f2, f3, f4⟩ := c.at0
    have hst0 : ∀ w, stepG P true a0 w = stepG P true s.g w := stepG_same f1 f2 f3
    have hst1 : ∀ b, ∀ g, gs[ix b]? = some g → g.status = .running ∨ g.status = .blocked ∨ g.status = .finished := fun b g hg => by
      have kd := c.kid b
      cases e : xs b with
      | off vs k => rw [e] at kd; have : gs.size ≤ ix b := kd; rw [Array.getElem?_eq_none this] at hg; cases hg
      | run x => rw [e] at kd; have : gs[ix b]? = some x.g := kd; rw [hg] at this; cases this; exact .inl (ro b x e)
      | park x g' v z => rw [e] at kd; have : gs[ix b]? = some _ := kd; rw [hg] at this; cases this; exact .inr (.inl rfl)
      | shut h => rw [e] at kd; obtain ⟨g', e1, e2, _⟩ := kd; rw [hg] at e1; cases e1; exact e2.status.imp id .inr
      | gone => rw [e] at kd; obtain ⟨g', e1, e2⟩ := kd; rw [hg] at e1; cases e1; exact e2.status.imp id .inr
    have hst2 : a0.status = .running ∨ a0.status = .blocked ∨ a0.status = .finished := by
      cases pk with
      | false => exact .inl f4
      | true => have f4 : a0 = parked (core s.g) (selCases s.sd ch zz) .select := f4; rw [f4]; exact .inr (.inl rfl)
    have aw : ∀ g ∈ gs, awake g := fun g hg => by
      obtain ⟨i, hi, rfl⟩ := Array.mem_iff_getElem.1 hg
      have hi' : gs[i]? = some gs[i] := Array.getElem?_eq_getElem hi
      rcases c.who hi' with e | ⟨b, e⟩ | ⟨_, _, _, hq⟩
      · subst e
        rw [ha0] at hi'
        rw [← Option.some.inj hi']; exact awake_of hst2
      · subst e
        exact awake_of (hst1 b _ hi')
      · exact awake_of (hq.status.imp id .inr)
    have someone : ∃ (i : Nat) (g : Goroutine), gs[i]? = some g ∧ g.status = .running := by
      cases pk with
      | false => exact ⟨0, a0, ha0, f4⟩
      | true =>
        obtain ⟨_, ⟨b, x, e⟩, _⟩ := c.park rfl
        have kd := c.kid b
        rw [e] at kd
        exact ⟨ix b, x.g, kd, ro b x e⟩
    obtain ⟨i, g, d, sl', hi, hg, hst⟩ := crowd_pick (P := P) (w := w) (sl := sl) aw someone
    have c1 := c.at d
    -- a leaver's step
    have leaver : (∀ b, i = ix b → (∃ h, xs b = .shut h) ∨ xs b = .gone) → i ≠ 0 → QuitsIn P (q i) g → Reach P B bo ch ix zz K h0 w0 gs w sl t := fun hkk i0 hq => by
      obtain ⟨k, g', e1, e2, e3⟩ := quits_step hq hg
      obtain ⟨hr, c2⟩ := c1.leave (sl := sl') ro hi i0 hkk e2 e3
      refine Reach.step hst hr ?_
      rw [Array.append_empty]
      have hlt : i < gs.size := (Array.getElem?_eq_some_iff.1 hi).1
      have hsum : sumTo gs.size (upd q i k) + (k + 1) = sumTo gs.size q + k := by
        have := sumTo_upd q k id hlt
        simpa [e1] using this
      have h4 : sumTo (gs.setIfInBounds i g').size (upd q i k) + (if pk then 0 else 1) + 1 = sumTo gs.size q + (if pk then 0 else 1) := by
        rw [Array.size_setIfInBounds]; omega
      exact ihn (n - 1) (by omega) pk _ _ _ _ _ c2 (by omega)
    rcases c.who hi with rfl | ⟨b, rfl⟩ | ⟨hp, h1, h2, hq⟩
    · -- the starter
      rw [ha0] at hi
      obtain rfl := Option.some.inj hi
      have hpk : pk = false := by
        cases pk with
        | false => rfl
        | true => have f4 : a0 = parked (core s.g) (selCases s.sd ch zz) .select := f4; rw [f4] at hg; cases hg
      subst hpk
      cases hstep with
      | own st =>
        obtain ⟨fr, cs, w', h', es, e1, u, ev, k⟩ := st (w.at d) (c1.wd.sub 0 _ act_zero)
        have hr := runT_crowd_go (P := P) (sl := sl') (i := 0) ha0 (show stepG P (0 == 0) a0 (w.at d) = _ from (hst0 _).trans e1)
        obtain ⟨c2, hch⟩ := c1.main (fr := fr) (cs := cs) (fn := a0.frame.fn) (pos := a0.frame.place) u ev
        rw [c1.calm ro hch] at hr
        exact Reach.step hst hr (ihm _ k xs hk false _ _ _ _ _ c2)
      | fork b hsd hb1 hg' st j kid k =>
        obtain ⟨es, e1, ev⟩ := st (w.at d) (c1.wd.sub 0 _ act_zero)
        obtain ⟨gs', u, hr, c2⟩ := c1.fork (sl := sl') ha0 hsd hb1 hg' ((hst0 _).trans e1) ev j
        refine Reach.step hst hr (ihm _ k _ (fun b' => ?_) false _ _ _ _ _ c2)
        by_cases hb : b' = b
        · subst hb; rw [ud_same]; exact kid
        · rw [ud_ne xs _ hb]; exact hk b'
      | sel lv hon st n1 n2 =>
        obtain ⟨es, e1, ev⟩ := st (w.at d) (c1.wd.sub 0 _ act_zero)
        have e2 := (hst0 (w.at d)).trans e1
        have go : ∀ b cc, (s.sd b).chan (ch b) = some cc → SelTaken P gs (w.at d) sl' 0 a0 (core s.g) es (selCases s.sd ch zz) (bIx b) cc (zz b) (runT P (crowd gs (w.at d) sl') 0) → Reach P B bo ch ix zz K h0 w0 gs w sl t := fun b cc hcc hkk => by
          have key : ∀ y, Kid P B bo ch (ch b) (Fin b) y → ∀ b', Kid P B bo ch (ch b') (Fin b') (ud xs b y b') := fun y hy b' => by
            by_cases hb : b' = b
            · subst hb; rw [ud_same]; exact hy
            · rw [ud_ne xs _ hb]; exact hk b'
          rcases c1.take ro po ha0 ev hcc hkk with ⟨k, g, v, z, gs', w', u, hx, hr, c2⟩ | ⟨h, h', gs', w', u, hx, hj, hr, c2⟩
          · have sb := stK b
            rw [hx] at sb
            cases sb with
            | park _ nk => exact Reach.step hst hr (ihm _ (n1 b v k.vs (by rw [← c.sd b, hx]; rfl)) _ (key _ nk.2) false _ _ _ _ _ c2)
          · have sb := stK b
            rw [hx] at sb
            cases sb with
            | gone hf nk => exact Reach.step hst hr (ihm _ (n2 b h h' (by rw [← c.sd b, hx]; rfl) hf hj) _ (key _ nk.2) false _ _ _ _ _ c2)
        rcases c1.sits ro false (lv false) with i0 | ⟨_, r0⟩ <;> rcases c1.sits ro true (lv true) with i1 | ⟨_, r1⟩
        · obtain ⟨gs', u, hr, hsz, c2⟩ := c1.wait (sl := sl') ha0 e2 ev (fun b => by cases b; exact i0; exact i1) hon (fun w hw => let ⟨es, e, _⟩ := st w hw; ⟨es, e⟩)
          refine Reach.step hst hr (ihn (n - 1) ?_ true _ _ _ _ _ c2 ?_)
          · simp at hle; omega
          · rw [hsz]; simp at hle ⊢; omega
        · rcases sel_two (sl := sl') (i := 0) ha0 e2 (.inr i0.2) (.inl r1) (.inr r1) with ⟨cc, h1, h2⟩ | ⟨cc, h1, h2⟩
          · exact go false cc h1 h2
          · exact go true cc h1 h2
        · rcases sel_two (sl := sl') (i := 0) ha0 e2 (.inl r0) (.inr i1.2) (.inl r0) with ⟨cc, h1, h2⟩ | ⟨cc, h1, h2⟩
          · exact go false cc h1 h2
          · exact go true cc h1 h2
        · rcases sel_two (sl := sl') (i := 0) ha0 e2 (.inl r0) (.inl r1) (.inl r0) with ⟨cc, h1, h2⟩ | ⟨cc, h1, h2⟩
          · exact go false cc h1 h2
          · exact go true cc h1 h2
      | done h1 h2 => exact absurd ⟨h1, h2⟩ hdone
    · -- a child
      have kd := c.kid b
      have sb := stK b
      have ip := ix_pos c.ix1 b
      have i0 : (ix b == 0) = false := by simpa using ip
      have hx : ∀ x, xs b = x → xs b = x := fun _ => id
      have uqb : ∀ b', ix b = ix b' → b' = b := fun b' e => (ix_inj c.ix1 e).symm
      generalize hxb : xs b = x at kd sb hx
      cases sb with
      | @own vs k g1 h st =>
        have kd : gs[ix b]? = some g1 := kd
        rw [hi] at kd
        obtain rfl := Option.some.inj kd
        obtain ⟨fr, cs, w', h', es, e1, u, ev, kk⟩ := st (w.at d) (c1.wd.sub (ix b) _ (c1.kidAc hxb rfl))
        have hr := runT_crowd_go (P := P) (sl := sl') (i := ix b) hi (by rw [i0]; exact e1)
        obtain ⟨c2, hch⟩ := c1.kidOwn hxb (fr := fr) (cs := cs) (fn := g.frame.fn) (pos := g.frame.place) u ev
        rw [c1.calm ro hch] at hr
        exact Reach.step hst hr (kk.1 _ _ _ _ _ _ c2)
      | @rd vs k g1 h st =>
        have kd : gs[ix b]? = some g1 := kd
        rw [hi] at kd
        obtain rfl := Option.some.inj kd
        obtain ⟨fr, cs, es, e1, ev, kk⟩ := st (w.at d) _ (c1.wd.sub (ix b) _ (c1.kidAc hxb rfl)) c1.shd
        have hr := runT_crowd_go (P := P) (sl := sl') (i := ix b) hi (by rw [i0]; exact e1)
        obtain ⟨c2, hch⟩ := c1.kidShr hxb (k' := k) (w' := w.at d) (fr := fr) (cs := cs) (fn := g.frame.fn) (pos := g.frame.place) ev (.inl ⟨rfl, rfl⟩)
        rw [c1.calm ro hch] at hr
        exact Reach.step hst hr (kk.1 _ _ _ _ _ _ c2)
      | @add vs k g1 h st =>
        have kd : gs[ix b]? = some g1 := kd
        rw [hi] at kd
        obtain rfl := Option.some.inj kd
        obtain ⟨m, hm⟩ : ∃ m, (xs false).k + (xs true).k = m + 1 := by
          have : (xs b).k = k + 1 := by rw [hxb]; rfl
          cases b
          · exact ⟨k + (xs true).k, by omega⟩
          · exact ⟨(xs false).k + k, by omega⟩
        obtain ⟨fr, cs, es, e1, ev, kk⟩ := st (w.at d) m (c1.wd.sub (ix b) _ (c1.kidAc hxb rfl)) (by rw [← hm]; exact c1.shd)
        have hr := runT_crowd_go (P := P) (sl := sl') (i := ix b) hi (by rw [i0]; exact e1)
        obtain ⟨c2, hch⟩ := c1.kidShr hxb (k' := k) (fr := fr) (cs := cs) (fn := g.frame.fn) (pos := g.frame.place) ev (.inr ⟨rfl, m, hm, rfl⟩)
        rw [c1.calm ro hch] at hr
        exact Reach.step hst hr (kk.1 _ _ _ _ _ _ c2)
      | @send v vs k g1 h z st nr np =>
        have kd : gs[ix b]? = some g1 := kd
        rw [hi] at kd
        obtain rfl := Option.some.inj kd
        obtain ⟨es, e1, ev⟩ := st (w.at d) (c1.wd.sub (ix b) _ (c1.kidAc hxb rfl))
        cases pk with
        | false =>
          obtain ⟨hr, c2⟩ := c1.kidPark (sl := sl') ro hxb e1 ev
          exact Reach.step hst hr (np.1 _ _ _ _ _ _ c2)
        | true =>
          obtain ⟨gs', w', u, hr, c2⟩ := c1.kidMeet (sl := sl') ro hxb e1 ev
          have hsd : s.sd b = .on (v :: vs) := by rw [← c.sd b, hxb]; rfl
          -- the starter is at its select
          have hsel : Nm (s.turn b (.on vs) (Conc.served (core s.g) (commResult (selCases s.sd ch zz) .select (bIx b) v true)) s.h) := by
            obtain ⟨es', e2⟩ := (c.park rfl).2.2 (w.at d) (c1.wd.sub 0 _ act_zero)
            cases hstep with
            | own st =>
              obtain ⟨fr, cs, w', h', es, e3, _⟩ := st (w.at d) (c1.wd.sub 0 _ act_zero)
              rw [e2] at e3; cases e3
            | fork b hsd hb1 hg' st j kid k =>
              obtain ⟨es, e3, _⟩ := st (w.at d) (c1.wd.sub 0 _ act_zero)
              rw [e2] at e3; cases e3
            | sel lv hon st n1 n2 => exact n1 b v vs hsd
            | done h1 h2 => rw [h1 b] at hsd; cases hsd
          refine Reach.step hst hr (ihm _ hsel _ (fun b' => ?_) false _ _ _ _ _ c2)
          by_cases hb : b' = b
          · subst hb; rw [ud_same]; exact nr.2
          · rw [ud_ne xs _ hb]; exact hk b'
      | @shut g1 h hw st nk =>
        have kd : gs[ix b]? = some g1 := kd
        rw [hi] at kd
        obtain rfl := Option.some.inj kd
        have hcn := c1.chn b
        rw [hxb] at hcn
        obtain ⟨a, r, tm, hh⟩ := hcn
        obtain ⟨g', es, n', e1, ev, hq⟩ := st (w.at d) a r tm (c1.wd.sub (ix b) _ (c1.kidAc hxb rfl)) hh
        obtain ⟨gs', u, hr, c2⟩ := c1.kidShut (sl := sl') ro hxb hw hh e1 ev hq
        exact Reach.step hst hr (nk.1 _ _ _ _ _ _ c2)
      | park e n =>
        have kd : gs[ix b]? = some _ := kd
        rw [hi] at kd
        rw [Option.some.inj kd] at hg; cases hg
      | gone hf n =>
        obtain ⟨g', e1, e2, _⟩ := kd
        rw [hi] at e1; cases e1
        exact leaver (fun b' e => by rw [uqb b' e]; exact .inl ⟨_, hxb⟩) ip e2
      | off =>
        have kd : gs.size ≤ ix b := kd
        rw [Array.getElem?_eq_none kd] at hi; cases hi
      | done =>
        obtain ⟨g', e1, e2⟩ := kd
        rw [hi] at e1; cases e1
        exact leaver (fun b' e => by rw [uqb b' e]; exact .inr hxb) ip e2
    · exact leaver (fun b e => absurd e (by cases b; exact h1; exact h2)) (by omega) hq
  have main : ∀ n pk gs w sl t q, CInv P B bo ch ix zz h0 w0 s pk xs gs w t q → sumTo gs.size q + (if pk then 0 else 1) ≤ n → Reach P B bo ch ix zz K h0 w0 gs w sl t := by
    intro n
    induction n with
    | zero => exact fun pk gs w sl t q c hle => body 0 (fun m h => absurd h (by omega)) pk gs w sl t q c hle
    | succ n ih => exact fun pk gs w sl t q c hle => body (n + 1) (fun m hm pk gs w sl t q c hle => ih pk gs w sl t q c (by omega)) pk gs w sl t q c hle
  exact fun pk gs w sl t q c => main _ pk gs w sl t q c (Nat.le_refl _)

def kx (x0 x1 : KX) : Bool → KX := fun b => if b then x1 else x0

theorem Kid.run {c : Nat} {F : LH → Prop} {x : KX} (k : Kid P B bo ch c F x) : ∀ s, x = .run s → s.g.status = .running := by
  cases k with
  | node N r st hN => exact r
theorem Kid.park {c : Nat} {F : LH → Prop} {x : KX} (k : Kid P B bo ch c F x) : ∀ s g v z, x = .park s g v z → s.g = Conc.served (core g) undef := by
  cases k with
  | node N r st hN =>
    intro s g v z e
    subst e
    cases st with
    | park e n => exact e

theorem kx_all {x0 x1 : KX} (k0 : Kid P B bo ch (ch false) (Fin false) x0) (k1 : Kid P B bo ch (ch true) (Fin true) x1) : ∀ b, Kid P B bo ch (ch b) (Fin b) (kx x0 x1 b) := fun b => by cases b; exact k0; exact k1

/-- THE COMPANY. -/
theorem company {s : MS} (hm : MainT P B bo ch zz Fin K s) : ∀ xs, (∀ b, Kid P B bo ch (ch b) (Fin b) (xs b)) → GR P B bo ch ix zz K h0 w0 s xs := by
  induction hm with
  | @node s Nm hrun hstep hN ihm =>
    have two : ∀ x0, Kid P B bo ch (ch false) (Fin false) x0 → ∀ x1, Kid P B bo ch (ch true) (Fin true) x1 → GR P B bo ch ix zz K h0 w0 s (kx x0 x1) := by
      intro x0 k0
      induction k0 with
      | @node x0 N0 r0 st0 hN0 ih0 =>
        intro x1 k1
        induction k1 with
        | @node x1 N1 r1 st1 hN1 ih1 =>
          have k0 : Kid P B bo ch (ch false) (Fin false) x0 := .node N0 r0 st0 hN0
          have k1 : Kid P B bo ch (ch true) (Fin true) x1 := .node N1 r1 st1 hN1
          have ka := kx_all k0 k1
          refine company_node Nm hrun hstep ihm ka (fun b s e => (ka b).run s e) (fun b s g v z e => (ka b).park s g v z e) (fun b => ?_)
          cases b with
          | false =>
            refine KidStep.imp st0 fun y hy => ⟨?_, hN0 y hy⟩
            have : ud (kx x0 x1) false y = kx y x1 := by funext b; cases b <;> rfl
            rw [this]; exact ih0 y hy x1 k1
          | true =>
            refine KidStep.imp st1 fun y hy => ⟨?_, hN1 y hy⟩
            have : ud (kx x0 x1) true y = kx x0 y := by funext b; cases b <;> rfl
            rw [this]; exact ih1 y hy
    intro xs hk
    have : xs = kx (xs false) (xs true) := by funext b; cases b <;> rfl
    rw [this]
    exact two _ (hk false) _ (hk true)
end
end Go.Lx

namespace Go.Lx
open Go Go.Conc
open Go.ConcN (upd upd_same upd_ne sumTo sumTo_upd)

/-- What is held of the trace between two episodes. -/
structure ComL (t : Trace) : Prop where
  clean : ∀ said, ¬ Race said t
  quiet : ∀ op ∈ t, ∀ m, op.act = .mark m → okMark m = true
  kn : ∀ i a, touchAt t i = some a → a.loc.isMemory = true → Knows t 0 i

def lone0 (h : LH) (k : Nat) : Option LH := if k = 0 then some h else none

theorem ComL.com {t : Trace} (c : ComL t) (h : LH) (S : Touch → Prop) : Com (lone0 h) S t := ⟨c.clean, c.quiet, fun i a ha hm g hg e => by
  unfold lone0 at e
  split at e
  · subst_vars; exact .inl (c.kn i a ha hm)
  · cases e⟩

theorem Com.lone {t : Trace} {h : LH} {Ac : Nat → Option LH} {S : Touch → Prop} (c : Com Ac S t) (h0 : Ac 0 = some h) (hn : ∀ k, k ≠ 0 → Ac k = none) : ComL t := ⟨c.clean, c.quiet, fun i a ha hm => by
  rcases c.kn i a ha hm 0 h h0 with k | ⟨g', h', n, e, _⟩
  · exact k
  · rw [hn g' n] at e; cases e⟩

theorem ComL.own {t : Trace} {h : LH} {fn : FuncId} {pos : String} {es : Array Event} (c : ComL t) (ev : ∀ x ∈ es, EvOK h x) : ComL (t ++ MemOp.ofEvents 0 fn pos es) := by
  obtain ⟨e1, e2, e3⟩ := ofEvents_evOK (g := 0) (fn := fn) (pos := pos) ev
  have one : ∀ k, k ≠ 0 → lone0 h k = none := fun k hk => by simp [lone0, hk]
  obtain ⟨B, hB⟩ : ∃ B, True := ⟨0, trivial⟩
  refine ⟨fun said => noRace_append (c.clean said) e1 fun i a ha op hop b hb hc => c.kn i a ha hc.2.1, quiet_app c.quiet e2, fun i a ha hm => ?_⟩
  obtain ⟨x, hx, hxa⟩ := touch_of ha
  rcases getElem?_append_cases hx with ⟨hi, hx'⟩ | ⟨_, hxu⟩
  · exact (c.kn i a (by rw [touchAt_of hx']; exact hxa) hm).app _
  · have := knows_own hx
    rw [e1 x hxu] at this
    exact this

structure Idle (P : Program) (g : Goroutine) (h : LH) (gs : Array Goroutine) (w : World) (t : Trace) (q : Nat → Nat) : Prop where
  at0 : ∃ a, gs[0]? = some a ∧ a.frame = g.frame ∧ a.callers = g.callers ∧ a.dying = g.dying ∧ a.status = .running
  old : ∀ i x, 0 < i → gs[i]? = some x → QuitsIn P (q i) x
  com : ComL t
  sub : h.Sub w

structure FarU (h : LH) (w : World) (h' : LH) (w' : World) : Prop where
  size : w.heap.size ≤ w'.heap.size
  keep : ∀ b, b < w.heap.size → h b = none → w'.heap[b]? = w.heap[b]?
  os : w'.os = w.os
  output : w'.output = w.output
  tape : w'.tape = w.tape
  perm : ∀ b p o, h b = some (p, o) → ∃ o', h' b = some (p, o') ∧ (p = false → o' = o)
  new : ∀ b p o, h b = none → h' b = some (p, o) → w.heap.size ≤ b

theorem FarU.refl (h : LH) (w : World) : FarU h w h w := ⟨Nat.le_refl _, fun _ _ _ => rfl, rfl, rfl, rfl, fun _ _ o e => ⟨o, e, fun _ => rfl⟩, fun _ _ _ e e' => by rw [e] at e'; cases e'⟩
theorem FarU.of_upd {h h' : LH} {w w' : World} (u : Upd h w h' w') : FarU h w h' w' := ⟨u.size, u.keep, u.os, u.output, u.tape, u.perm, fun b p o e e' => (u.new b p o e e').1⟩
theorem FarU.trans {h h' h'' : LH} {w w' w'' : World} (a : FarU h w h' w') (b : FarU h' w' h'' w'') : FarU h w h'' w'' := by
  refine ⟨Nat.le_trans a.size b.size, fun x hx e => ?_, b.os.trans a.os, b.output.trans a.output, b.tape.trans a.tape, fun x p o e => ?_, fun x p o e e2 => ?_⟩
  · cases e1 : h' x with
    | none => rw [b.keep x (Nat.lt_of_lt_of_le hx a.size) e1, a.keep x hx e]
    | some po => obtain ⟨p1, o1⟩ := po; exact absurd hx (Nat.not_lt.2 (a.new x p1 o1 e e1))
  · obtain ⟨o1, e1, q1⟩ := a.perm x p o e
    obtain ⟨o2, e2, q2⟩ := b.perm x p o1 e1
    exact ⟨o2, e2, fun hp => (q2 hp).trans (q1 hp)⟩
  · cases e1 : h' x with
    | none => exact Nat.le_trans a.size (b.new x p o e1 e2)
    | some po => obtain ⟨p1, o1⟩ := po; exact a.new x p1 o1 e e1
theorem FarU.at (h : LH) (w : World) (d : Nat) : FarU h w h (w.at d) := ⟨Nat.le_refl _, fun _ _ _ => rfl, rfl, rfl, rfl, fun _ _ o e => ⟨o, e, fun _ => rfl⟩, fun _ _ _ e e' => by rw [e] at e'; cases e'⟩

/-- AN EPISODE: from an idle moment at g, h the machine comes to one that K allows. -/
def Epi (P : Program) (g : Goroutine) (h : LH) (K : Goroutine → LH → Prop) : Prop :=
  ∀ gs w sl t q, Idle P g h gs w t q → ∃ N gs' w' sl' t' q' g' h', runNT P N (crowd gs w sl) t = (.next (crowd gs' w' sl'), t') ∧ Idle P g' h' gs' w' t' q' ∧ K g' h' ∧ FarU h w h' w'

/-- The machine without company: goroutine 0 takes a step of its own. -/
theorem idle_step {P : Program} {g : Goroutine} {h : LH} {K : Goroutine → LH → Prop} (st : StepOK P true g h K) : Epi P g h K := by
  have main : ∀ n gs w sl t q, Idle P g h gs w t q → sumTo gs.size q ≤ n → ∃ N gs' w' sl' t' q' g' h', runNT P N (crowd gs w sl) t = (.next (crowd gs' w' sl'), t') ∧ Idle P g' h' gs' w' t' q' ∧ K g' h' ∧ FarU h w h' w' := by
    intro n
    induction n using Nat.strongRecOn with
    | ind n ihn =>
      intro gs w sl t q c hle
      obtain ⟨a0, ha0, f1, f2, f3, f4⟩ := c.at0
      have hlt0 : 0 < gs.size := (Array.getElem?_eq_some_iff.1 ha0).1
      have aw : ∀ g ∈ gs, awake g := fun g hg => by
        obtain ⟨i, hi, rfl⟩ := Array.mem_iff_getElem.1 hg
        have hi' : gs[i]? = some gs[i] := Array.getElem?_eq_getElem hi
        rcases Nat.eq_zero_or_pos i with e | e
        · subst e
          rw [ha0] at hi'
          rw [← Option.some.inj hi']; exact awake_of (.inl f4)
        · exact awake_of ((c.old i _ e hi').status.imp id .inr)
      obtain ⟨i, g1, d, sl', hi, hg, hst⟩ := crowd_pick (P := P) (w := w) (sl := sl) aw ⟨0, a0, ha0, f4⟩
      have calm : ∀ (w' : World) (a a' : Goroutine), (gs.map (woken P a a' w')).setIfInBounds i a' = gs.setIfInBounds i a' := fun w' a a' => by
        apply Array.ext_getElem?
        intro j
        by_cases hij : i = j
        · subst hij
          by_cases hlt : i < gs.size
          · rw [Array.getElem?_setIfInBounds_self_of_lt (by simpa using hlt), Array.getElem?_setIfInBounds_self_of_lt hlt]
          · rw [Array.getElem?_eq_none (by simpa using hlt), Array.getElem?_eq_none (by simpa using hlt)]
        · rw [Array.getElem?_setIfInBounds_ne hij, Array.getElem?_setIfInBounds_ne hij, Array.getElem?_map]
          cases hg : gs[j]? with
          | none => rfl
          | some x =>
            have key : x.again w' = x := by
              rcases Nat.eq_zero_or_pos j with e | e
              · subst e; rw [ha0] at hg; rw [← Option.some.inj hg]; exact again_running _ (.inl f4)
              · exact again_running _ (c.old j x e hg).status
            simp only [Option.map_some, Option.some.injEq]
            unfold woken
            split
            · exact key
            · rfl
      rcases Nat.eq_zero_or_pos i with i0 | ip
      · subst i0
        rw [ha0] at hi
        obtain rfl := Option.some.inj hi
        obtain ⟨fr, cs, w', h', es, e1, u, ev, k⟩ := st (w.at d) c.sub
        have hr := runT_crowd_go (P := P) (sl := sl') (i := 0) ha0 (show stepG P (0 == 0) a0 (w.at d) = _ from (stepG_same f1 f2 f3 _).trans e1)
        rw [calm] at hr
        refine ⟨1, _, _, _, _, q, gor fr cs, h', (runNT_succ_next (hst.trans hr) 0 t).trans rfl, ⟨⟨gor fr cs, by simp [hlt0], rfl, rfl, rfl, rfl⟩, fun j x hj hx => ?_, c.com.own ev, u.sub⟩, k, (FarU.at h w d).trans (FarU.of_upd u)⟩
        rw [Array.getElem?_setIfInBounds_ne (by omega)] at hx
        exact c.old j x hj hx
      · have hq := c.old i g1 ip hi
        have hlt : i < gs.size := (Array.getElem?_eq_some_iff.1 hi).1
        have i0 : (i == 0) = false := by simp; omega
        obtain ⟨k, g', e1, e2, e3⟩ := quits_step hq hg
        have hr := runT_crowd_go (P := P) (sl := sl') hi (by rw [i0]; exact e2 (w.at d))
        rw [calm, ofEvents_none] at hr
        have hsum : sumTo gs.size (upd q i k) + (k + 1) = sumTo gs.size q + k := by
          have := sumTo_upd q k id hlt
          simpa [e1] using this
        obtain ⟨N, gs', w', sl2, t', q', g2, h2, r1, r2, r3, r4⟩ := ihn (sumTo gs.size (upd q i k)) (by omega) (gs.setIfInBounds i g') (w.at d) sl' t (upd q i k) ⟨⟨a0, by rw [Array.getElem?_setIfInBounds_ne (by omega)]; exact ha0, f1, f2, f3, f4⟩, fun j x hj hx => by
          by_cases e : i = j
          · subst e
            rw [Array.getElem?_setIfInBounds_self_of_lt hlt] at hx
            cases hx
            rw [upd_same]; exact e3
          · rw [Array.getElem?_setIfInBounds_ne e] at hx
            rw [upd_ne q k (fun x => e x.symm)]
            exact c.old j x hj hx, c.com, c.sub⟩ (by rw [Array.size_setIfInBounds]; exact Nat.le_refl _)
        exact ⟨N + 1, gs', w', sl2, t', q', g2, h2, by rw [runNT_succ_next (hst.trans hr), Array.append_empty]; exact r1, r2, r3, (FarU.at h w d).trans r4⟩
  exact fun gs w sl t q c => main _ gs w sl t q c (Nat.le_refl _)

/-- A goroutine's way, with episodes. -/
inductive Ec (P : Program) (S : Goroutine → LH → Prop) : Goroutine → LH → Prop
  | stop {g : Goroutine} {h : LH} : S g h → Ec P S g h
  | epi {g : Goroutine} {h : LH} (K : Goroutine → LH → Prop) : Epi P g h K → (∀ g' h', K g' h' → Ec P S g' h') → Ec P S g h

theorem Ec.reach {P : Program} {S : Goroutine → LH → Prop} {g : Goroutine} {h : LH} (e : Ec P S g h) : Epi P g h S := by
  induction e with
  | stop s => exact fun gs w sl t q c => ⟨0, gs, w, sl, t, q, _, _, rfl, c, s, .refl _ _⟩
  | epi K k hn ih =>
    intro gs w sl t q c
    obtain ⟨N, gs', w', sl', t', q', g', h', r1, r2, r3, r4⟩ := k gs w sl t q c
    obtain ⟨N2, gs2, w2, sl2, t2, q2, g2, h2, s1, s2, s3, s4⟩ := ih g' h' r3 gs' w' sl' t' q' r2
    exact ⟨N + N2, gs2, w2, sl2, t2, q2, g2, h2, by rw [runNT_add, r1]; exact s1, s2, s3, r4.trans s4⟩

/-- A target that takes episodes in. -/
def Co (P : Program) (X : Tgt) : Prop := X.main = true ∧ ∀ g h K, Epi P g h K → (∀ g' h', K g' h' → Ev P X g' h') → Ev P X g h

theorem Epi.mono {P : Program} {g : Goroutine} {h0 h : LH} {K : Goroutine → LH → Prop} (e : Epi P g h0 K) (le : h0.Le h) : Epi P g h (fun g' h' => ∃ h0', K g' h0' ∧ h0'.Le h') := by
  intro gs w sl t q c
  obtain ⟨N, gs', w', sl', t', q', g', h0', r1, r2, r3, u⟩ := e gs w sl t q ⟨c.at0, c.old, c.com, le.sub c.sub⟩
  let h' : LH := fun b => match h0' b with
    | some (_, o') => some ((match h b with | some (p, _) => p | none => true), o')
    | none => h b
  have hw := c.sub
  have hnone : ∀ b, h0' b = none → h0 b = none := fun b e => by
    cases e9 : h0 b with
    | none => rfl
    | some po => obtain ⟨p0, o0⟩ := po; obtain ⟨o1, e4, _⟩ := u.perm _ _ _ e9; rw [e] at e4; cases e4
  have hle : h0'.Le h' := by
    intro b p o e
    refine ⟨(match h b with | some (p, _) => p | none => true), by simp only [h', e], fun hp => ?_⟩
    subst hp
    cases e0 : h0 b with
    | some po =>
      obtain ⟨p0, o0⟩ := po
      obtain ⟨o1, e4, _⟩ := u.perm _ _ _ e0
      rw [e] at e4; cases e4
      obtain ⟨p', e5, q5⟩ := le _ _ _ e0
      rw [e5]; exact q5 rfl
    | none =>
      cases e6 : h b with
      | none => rfl
      | some po =>
        obtain ⟨p1, o1⟩ := po
        have := lt_of_heap (hw _ _ _ e6)
        have := u.new _ _ _ e0 e
        omega
  have hsub : h'.Sub w' := by
    intro b p o e
    simp only [h'] at e
    cases e7 : h0' b with
    | some po => obtain ⟨p0, o0⟩ := po; rw [e7] at e; cases e; exact r2.sub _ _ _ e7
    | none =>
      rw [e7] at e
      rw [u.keep b (lt_of_heap (hw _ _ _ e)) (hnone b e7)]; exact hw _ _ _ e
  refine ⟨N, gs', w', sl', t', q', g', h', r1, ⟨r2.at0, r2.old, r2.com, hsub⟩, ⟨h0', r3, hle⟩, u.size, ?_, u.os, u.output, u.tape, ?_, ?_⟩
  · intro b hb e
    refine u.keep b hb ?_
    cases e9 : h0 b with
    | none => rfl
    | some po => obtain ⟨p0, o0⟩ := po; obtain ⟨p', e5, _⟩ := le _ _ _ e9; rw [e] at e5; cases e5
  · intro b p o e
    cases e7 : h0' b with
    | none => exact ⟨o, by simp only [h', e7]; exact e, fun _ => rfl⟩
    | some po =>
      obtain ⟨p0, o0⟩ := po
      refine ⟨o0, by simp only [h', e7, e], fun hp => ?_⟩
      subst hp
      cases e9 : h0 b with
      | none => have := lt_of_heap (hw _ _ _ e); have := u.new _ _ _ e9 e7; omega
      | some po =>
        obtain ⟨p2, o2⟩ := po
        obtain ⟨o1, e4, q4⟩ := u.perm _ _ _ e9
        rw [e7] at e4; cases e4
        obtain ⟨p', e5, q5⟩ := le _ _ _ e9
        rw [e] at e5; cases e5
        cases p0 with
        | true => cases q5 rfl
        | false => exact q4 rfl
  · intro b p o e e'
    have e8 : h0 b = none := by
      cases e9 : h0 b with
      | none => rfl
      | some po => obtain ⟨p0, o0⟩ := po; obtain ⟨p', e5, _⟩ := le _ _ _ e9; rw [e] at e5; cases e5
    simp only [h', e] at e'
    cases e7 : h0' b with
    | none => rw [e7] at e'; cases e'
    | some po => obtain ⟨p0, o0⟩ := po; rw [e7] at e'; cases e'; exact u.new _ _ _ e8 e7

theorem Ec.mono {P : Program} {S : Goroutine → LH → Prop} (hS : ∀ g h h', S g h → h.Le h' → S g h') {g : Goroutine} {h0 h : LH} (e : Ec P S g h0) (le : h0.Le h) : Ec P S g h := by
  induction e generalizing h with
  | stop s => exact .stop (hS _ _ _ s le)
  | epi K k hn ih => exact .epi _ (k.mono le) fun g' h' ⟨h0', k', l⟩ => ih g' h0' k' l

/-- The target that takes episodes in, made of any stop. -/
def coTgt (P : Program) (S : Goroutine → LH → Prop) (hS : ∀ g h h', S g h → h.Le h' → S g h') : Tgt := ⟨true, Ec P S, fun _ _ _ s l => s.mono hS l⟩

theorem coTgt_ec {P : Program} {S : Goroutine → LH → Prop} {hS : ∀ g h h', S g h → h.Le h' → S g h'} {g : Goroutine} {h : LH} (e : Ev P (coTgt P S hS) g h) : Ec P S g h := by
  induction e with
  | stop s => exact s
  | step K k hn ih => exact .epi K (idle_step k) ih

theorem coTgt_co (P : Program) (S : Goroutine → LH → Prop) (hS : ∀ g h h', S g h → h.Le h' → S g h') : Co P (coTgt P S hS) := ⟨rfl, fun _ _ K e k => .stop (.epi K e fun g' h' kk => coTgt_ec (k g' h' kk))⟩

/-! ### the company as an episode -/

def single (B : Nat) (o : Obj) : LH := fun b => if b = B then some (true, o) else none

theorem company_epi {P : Program} {B : Nat} {bo : Nat → Obj} {ch : Bool → Nat} {zz : Bool → Value} {Fin : Bool → LH → Prop} {K : Goroutine → LH → Prop} {g : Goroutine} {h hm : LH} {vs : Bool → List Value} {k : Bool → Nat}
    (hB : h B = some (true, bo (k false + k true))) (hc : ∀ b, ∃ s r tm, h (ch b) = some (true, .chan 0 #[] false s r tm)) (hd : ch false ≠ ch true ∧ ch false ≠ B ∧ ch true ≠ B)
    (hm0 : ∀ x, Offs B ch x → hm x = none) (hm1 : ∀ x, ¬ Offs B ch x → hm x = h x) (m : MainT P B bo ch zz Fin K ⟨fun b => .off (vs b) (k b), g, hm⟩) :
    Epi P g h (fun g' h' => ∃ h1, K g' h1 ∧ g'.status = .running ∧ h1 B = none ∧ h' B = some (true, bo 0) ∧ h1.Le h') := by
  intro gs w sl t q c
  obtain ⟨a0, ha0, f1, f2, f3, f4⟩ := c.at0
  have hlt0 : 0 < gs.size := (Array.getElem?_eq_some_iff.1 ha0).1
  have hO : ∀ x, Offs B ch x → ∃ o, h x = some (true, o) := fun x ox => by
    rcases ox with rfl | ⟨b, rfl⟩
    · exact ⟨_, hB⟩
    · obtain ⟨s, r, tm, e⟩ := hc b; exact ⟨_, e⟩
  let ix : Bool → Nat := fun b => if b then gs.size + 1 else gs.size
  have hA : Act 0 hm ix (fun b => .off (vs b) (k b)) = lone0 hm := by
    funext j
    unfold Act lone0
    by_cases j0 : j = 0
    · simp [j0]
    · rw [if_neg j0, if_neg j0]
      split
      · rfl
      · split
        · rfl
        · rfl
  have lone_eq : ∀ j hj, lone0 hm j = some hj → j = 0 ∧ hj = hm := fun j hj e => by
    unfold lone0 at e
    split at e
    · exact ⟨‹_›, (Option.some.inj e).symm⟩
    · cases e
  have hsub : hm.Sub w := fun b p o e => by
    by_cases ob : Offs B ch b
    · rw [hm0 b ob] at e; cases e
    · rw [hm1 b ob] at e; exact c.sub b p o e
  have c0 : CInv P B bo ch ix zz h w ⟨fun b => .off (vs b) (k b), g, hm⟩ false (fun b => .off (vs b) (k b)) gs w t q := by
    refine ⟨⟨hlt0, rfl⟩, fun _ => rfl, ⟨a0, ha0, f1, f2, f3, f4⟩, fun e => absurd e (by decide), fun b => ?_, fun i x hi _ _ hx => c.old i x hi hx, ⟨Nat.le_refl _, by show gs.size ≤ gs.size + 1 + 1; omega⟩, fun b => ?_, hd, c.sub _ _ _ hB, ?_⟩
    · show gs.size ≤ ix b
      cases b
      · exact Nat.le_refl _
      · exact Nat.le_succ _
    · obtain ⟨s, r, tm, e⟩ := hc b
      exact ⟨s, r, tm, c.sub _ _ _ e⟩
    · rw [hA]
      refine ⟨c.com.com hm _, fun g g' h1 h2 ne e e' => ?_, fun e oe g' h1 eg => ?_, fun g' h1 eg => ?_, ⟨Nat.le_refl _, fun _ _ _ => rfl, rfl, rfl, rfl, fun b p o e => ?_, fun g' h1 b p o e e2 hn => ?_⟩, fun e oe => ?_, fun e oe he => ?_⟩
      · exact absurd ((lone_eq _ _ e).1.trans (lone_eq _ _ e').1.symm) ne
      · rw [(lone_eq _ _ eg).2]; exact hm0 e oe
      · rw [(lone_eq _ _ eg).2]; exact hsub
      · by_cases ob : Offs B ch b
        · exact .inl ob
        · exact .inr ⟨0, hm, o, by simp [lone0], by rw [hm1 b ob]; exact e, fun _ => rfl⟩
      · rw [(lone_eq _ _ e).2] at e2
        by_cases ob : Offs B ch b
        · rw [hm0 b ob] at e2; cases e2
        · rw [hm1 b ob, hn] at e2; cases e2
      · obtain ⟨o, ho⟩ := hO e oe
        exact lt_of_heap (c.sub _ _ _ ho)
      · obtain ⟨o, ho⟩ := hO e oe
        rw [he] at ho; cases ho
  have koff : ∀ b, Kid P B bo ch (ch b) (Fin b) (.off (vs b) (k b)) := fun b => .node (fun _ => False) (fun s e => by cases e) .off (fun _ h => h.elim)
  obtain ⟨N, gs', w', sl', t', s', q', r1, c1, r2, r3⟩ := company m (fun b => .off (vs b) (k b)) koff false gs w sl t q c0
  have hA1 : Act 0 s'.h ix (fun _ => .gone) = lone0 s'.h := by
    funext j
    unfold Act lone0
    by_cases j0 : j = 0
    · simp [j0]
    · rw [if_neg j0, if_neg j0]
      split
      · rfl
      · split
        · rfl
        · rfl
  have wd := c1.wd
  rw [hA1] at wd
  have hoff : ∀ e, Offs B ch e → s'.h e = none := fun e oe => wd.off e oe 0 _ (by simp [lone0])
  have hobj : ∀ e, Offs B ch e → ∃ o, w'.heap[e]? = some o := fun e oe => ⟨_, Array.getElem?_eq_getElem (wd.lt e oe)⟩
  let h' : LH := fun x => if x = B ∨ x = ch false ∨ x = ch true then (w'.heap[x]?).map (fun o => (true, o)) else s'.h x
  have hx' : ∀ x, (x = B ∨ x = ch false ∨ x = ch true) ↔ Offs B ch x := fun x => ⟨fun e => by
    rcases e with e | e | e
    · exact .inl e
    · exact .inr ⟨_, e⟩
    · exact .inr ⟨_, e⟩, fun e => by
    rcases e with e | ⟨b, e⟩
    · exact .inl e
    · cases b
      · exact .inr (.inl e)
      · exact .inr (.inr e)⟩
  have hO' : ∀ x, Offs B ch x → ∃ o, w'.heap[x]? = some o ∧ h' x = some (true, o) := fun x ox => by
    obtain ⟨o, ho⟩ := hobj x ox
    obtain ⟨o0, h00⟩ := hO x ox
    refine ⟨o, ho, ?_⟩
    simp only [h', if_pos ((hx' x).2 ox), ho, Option.map_some]
  have hN' : ∀ x, ¬ Offs B ch x → h' x = s'.h x := fun x ox => if_neg (fun hh => ox ((hx' x).1 hh))
  refine ⟨N, gs', w', sl', t', q', s'.g, h', r1, ⟨c1.at0.imp fun a x => ⟨x.1, x.2.1, x.2.2.1, x.2.2.2.1, x.2.2.2.2⟩, fun i x hi hx => ?_, Com.lone wd.com (h := s'.h) (by simp [lone0]) (fun k hk => by simp [lone0, hk]), fun b p o e => ?_⟩, ⟨s'.h, r2, r3, hoff B (.inl rfl), ?_, fun b p o e => ?_⟩, wd.far.size, wd.far.keep, wd.far.os, wd.far.output, wd.far.tape, fun b p o e => ?_, fun b p o e e2 => ?_⟩
  · by_cases h1 : i = ix false
    · have := c1.kid false
      obtain ⟨g, e1, e2⟩ := this
      subst h1
      rw [hx] at e1; cases e1; exact e2
    · by_cases h2 : i = ix true
      · have := c1.kid true
        obtain ⟨g, e1, e2⟩ := this
        subst h2
        rw [hx] at e1; cases e1; exact e2
      · exact c1.old i x hi h1 h2 hx
  · by_cases ob : Offs B ch b
    · obtain ⟨o', e1, e2⟩ := hO' b ob
      rw [e2] at e; cases e; exact e1
    · rw [hN' b ob] at e
      exact wd.sub 0 s'.h (by simp [lone0]) b p o e
  · obtain ⟨o', e1, e2⟩ := hO' B (.inl rfl)
    rw [e2]
    have := c1.shd
    rw [this] at e1
    exact congrArg (fun o => some (true, o)) (Option.some.inj e1).symm
  · refine ⟨p, ?_, id⟩
    by_cases ob : Offs B ch b
    · rw [hoff b ob] at e; cases e
    · rw [hN' b ob]; exact e
  · rcases wd.far.perm b p o e with ob | ⟨g1, h1, o', e1, e2, e3⟩
    · obtain ⟨o0, h00⟩ := hO b ob
      rw [h00] at e; cases e
      obtain ⟨o', _, e2⟩ := hO' b ob
      exact ⟨o', e2, fun x => by cases x⟩
    · have : h1 = s'.h := by
        unfold lone0 at e1
        split at e1
        · exact (Option.some.inj e1).symm
        · cases e1
      subst this
      have ob : ¬ Offs B ch b := fun ob => by rw [hoff b ob] at e2; cases e2
      exact ⟨o', by rw [hN' b ob]; exact e2, e3⟩
  · by_cases ob : Offs B ch b
    · obtain ⟨o0, h00⟩ := hO b ob
      rw [e] at h00; cases h00
    · rw [hN' b ob] at e2
      exact wd.far.new 0 s'.h b p o (by simp [lone0]) e2 e

end Go.Lx

namespace Go.Br
open Go Go.Lx Go.Proofs
open Go.Lx renaming rg_move → zA, rg_int → zB, rg_nilCheck → zC, rg_fieldAddr0 → zD, rg_fieldAddr → zE, rg_load → zF, rg_assign → zG, rg_loadAgg → zH, rg_extract → zI, rg_not → zJ, rg_pick → zK, rg_off → zL, rg_offU → zM, rg_store → zN, rg_storeAgg → zO, rg_convInt → zP, rg_done → zQ, ex_seq → zR, rg_start_s → zS, rg_start_d → zT, ex_cond_true → zU, ex_cond_false → zV, rg_alloc → zW, rg_boxAgg → zX, rg_build → zY, rg_lenSl → zZ, rg_lenMap → yA, ex_skip → yB, ex_block → yC, ex_inBlock → yD, ex_exit → yE, rg_caseG → yZ
set_option maxRecDepth 100000

abbrev dCh (g : Nat) (a : Array Int) (sk : List Value) : Ch := .pt g true (.cells ⟨dC a sk⟩ 36 (0, 0))
abbrev dV (g n cap : Nat) : Value := .slice (some ⟨g, 0, none⟩) n cap

theorem isNaN_ok (x : Int) (Γ : List Ch) : CallsX Try.prog 112 #[.int .u64 x] Γ (fun v Δ => v = .bool false ∧ Δ = Γ) := by
  refine calls_of_body (args := [.int .u64 x]) Try.func112 rfl Try.ntmps112 fun X cs ret => ?_
  repeat (first|refine zA rfl ?_|refine zB rfl rfl rfl ?_|refine zG rfl ?_|refine zQ ?_|refine zR ?_|refine zS ?_)
  exact ex_retc ret Try.func112 rfl ⟨by simp [packV], rfl⟩

theorem less_ok (x y : Int) (Γ : List Ch) : CallsX Try.prog 102 #[.int .u64 x, .int .u64 y] Γ (fun v Δ => v = .bool (Sort.ltInt x y) ∧ Δ = Γ) := by
  refine calls_of_body (args := [.int .u64 x, .int .u64 y]) Try.func102 rfl Try.ntmps102 fun X cs ret => ?_
  repeat (first|refine zA rfl ?_|refine zG rfl ?_|refine zQ ?_|refine zR ?_|refine zS ?_)
  refine rg_call rfl (isNaN_ok x _) ?_
  rintro _ _ ⟨rfl, rfl⟩
  refine ⟨.inl rfl, ?_⟩
  repeat (first|refine zA rfl ?_|refine zB rfl rfl rfl ?_|refine zG rfl ?_|refine zK rfl rfl ?_|refine zL rfl rfl rfl rfl (by decide) trivial rfl ?_|refine zQ ?_)
  exact ex_retc ret Try.func102 rfl ⟨rfl, rfl⟩

theorem insInner_zero (lt : Int → Int → Bool) (a : Nat) (d : Array Int) : Sort.insInner lt a 0 d = d := rfl
theorem insInner_stop {lt : Int → Int → Bool} {a j : Nat} {d : Array Int} (h : ¬ (a < j ∧ lt d[j]! d[j - 1]! = true)) : Sort.insInner lt a j d = d := by
  cases j with
  | zero => rfl
  | succ j =>
    rw [Sort.insInner, if_neg]
    simp only [Bool.and_eq_true, decide_eq_true_eq]
    exact h
theorem insInner_step {lt : Int → Int → Bool} {a j : Nat} {d : Array Int} (h1 : a < j) (h2 : lt d[j]! d[j - 1]! = true) : Sort.insInner lt a j d = Sort.insInner lt a (j - 1) (Sort.swp d j (j - 1)) := by
  cases j with
  | zero => omega
  | succ j =>
    rw [Sort.insInner, if_pos]
    · rfl
    simp only [Bool.and_eq_true, decide_eq_true_eq]
    exact ⟨h1, h2⟩
theorem insOuter_stop {lt : Int → Int → Bool} {a b i : Nat} {d : Array Int} (h : ¬ i < b) : Sort.insOuter lt a b i d = d := by rw [Sort.insOuter, if_neg h]
theorem insOuter_step {lt : Int → Int → Bool} {a b i : Nat} {d : Array Int} (h : i < b) : Sort.insOuter lt a b i d = Sort.insOuter lt a b (i + 1) (Sort.insInner lt a i d) := by rw [Sort.insOuter, if_pos h]

set_option maxHeartbeats 1000000 in
theorem insertionSort_ok (g n cap a b : Nat) (d : Array Int) (sk : List Value) (Γ : List Ch) (hn : d.size = n) (hb : b ≤ n) (hn2 : n < 4611686018427387904) (ha : a ≤ n) :
    CallsX Try.prog 96 #[dV g n cap, .int .i64 a, .int .i64 b] (dCh g d sk :: Γ) (fun v Δ => v = .tuple #[] ∧ Δ = dCh g (Sort.insertionSort Sort.ltInt d a b) sk :: Γ) := by
  refine calls_of_body (args := [dV g n cap, .int .i64 a, .int .i64 b]) Try.func96 rfl Try.ntmps96 fun X cs ret => ?_
  repeat (first|refine zA rfl ?_|refine zB rfl rfl rfl ?_|refine zG rfl ?_|refine zQ ?_|refine zR ?_|refine zS ?_|refine yC ?_)
  refine ex_loop ?_
  refine ex_ind (ι := Nat × Array Int) (fun s => b + 1 - s.1) (fun s => [(6, .int .i64 s.1), (0, dV g n cap), (1, .int .i64 a), (2, .int .i64 b)]) (fun s => dCh g s.2 sk :: Γ)
    (fun s => s.2.size = n ∧ a < s.1 ∧ s.1 ≤ n + 1 ∧ Sort.insOuter Sort.ltInt a b s.1 s.2 = Sort.insertionSort Sort.ltInt d a b) (a + 1, d) ⟨hn, by omega, by dsimp only; omega, rfl⟩ ⟨vi (by first | with_reducible rfl | omega | (simp (disch := omega) only [wIn]; done) | (simp (disch := omega) only [wIn]; omega)), rfl, rfl, rfl, trivial⟩ rfl (fun ⟨i, e⟩ ⟨h1, h2, h2', h3⟩ IH => ?_)
  dsimp only at h1 h2 h3 h2' ⊢
  repeat (first|refine zA rfl ?_|refine zB rfl rfl rfl ?_|refine zQ ?_|refine zR ?_|refine zS ?_)
  refine ex_cond_split rfl (fun h4 => ?_) (fun h4 => ?_)
  · have h4 := of_decide_eq_true h4
    have h4' : i < b := by omega
    repeat (first|refine zA rfl ?_|refine zG rfl ?_|refine zQ ?_|refine zR ?_|refine zS ?_|refine yB ?_|refine yC ?_)
    refine ex_loop ?_
    refine ex_ind (ι := Nat × Array Int) (fun s => s.1) (fun s => [(7, .int .i64 s.1), (6, .int .i64 i), (0, dV g n cap), (1, .int .i64 a), (2, .int .i64 b)]) (fun s => dCh g s.2 sk :: Γ)
      (fun s => s.2.size = n ∧ s.1 ≤ i ∧ Sort.insInner Sort.ltInt a s.1 s.2 = Sort.insInner Sort.ltInt a i e) (i, e) ⟨h1, by exact Nat.le_refl _, rfl⟩ ⟨rfl, rfl, rfl, rfl, rfl, trivial⟩ rfl (fun ⟨j, f⟩ ⟨k1, k2, k3⟩ IH2 => ?_)
    dsimp only at k1 k2 k3 ⊢
    repeat (first|refine zA rfl ?_|refine zB rfl rfl rfl ?_|refine zR ?_|refine zT (by decide+kernel) (by decide+kernel) ?_)
    refine rg_caseG rfl rfl (fun h5 => ?_) (fun h5 => ?_)
    · have h5 := of_decide_eq_true h5
      have h5' : a < j := by omega
      repeat refine zA rfl ?_
      refine rg_indexD (j) rfl rfl (by first | with_reducible rfl | omega | (simp (disch := omega) only [wIn, td2, td4, td8]; done) | (simp (disch := omega) only [wIn, td2, td4, td8]; omega)) (by first | omega | (simp only [Array.size_setIfInBounds, Sort.swp_size]; omega)) ?_
      refine rg_loadD rfl (by first | omega | (simp only [Array.size_setIfInBounds, Sort.swp_size]; omega)) ?_
      repeat (first|refine zA rfl ?_|refine zB rfl rfl rfl ?_)
      refine rg_indexD (j - 1) rfl rfl (by first | with_reducible rfl | omega | (simp (disch := omega) only [wIn]; done) | (simp (disch := omega) only [wIn]; omega)) (by first | omega | (simp only [Array.size_setIfInBounds, Sort.swp_size]; omega)) ?_
      refine rg_loadD rfl (by first | omega | (simp only [Array.size_setIfInBounds, Sort.swp_size]; omega)) ?_
      refine rg_call rfl (less_ok _ _ _) ?_
      rintro _ _ ⟨rfl, rfl⟩
      refine ⟨.inr (by (repeat' first | exact trivial | refine ⟨.inl (by decide +kernel), ?_⟩)), ?_⟩
      repeat (first|refine zK rfl rfl ?_|refine zQ ?_)
      refine ex_cond_split rfl (fun h6 => ?_) (fun h6 => ?_)
      · repeat (first|refine zA rfl ?_|refine zB rfl rfl rfl ?_|refine zR ?_|refine zT (by decide+kernel) (by decide+kernel) ?_|refine yB ?_|refine yC ?_)
        refine rg_indexD (j - 1) rfl rfl (by first | with_reducible rfl | omega | (simp (disch := omega) only [wIn]; done) | (simp (disch := omega) only [wIn]; omega)) (by first | omega | (simp only [Array.size_setIfInBounds, Sort.swp_size]; omega)) ?_
        refine rg_loadD rfl (by first | omega | (simp only [Array.size_setIfInBounds, Sort.swp_size]; omega)) ?_
        repeat refine zA rfl ?_
        refine rg_indexD (j) rfl rfl (by first | with_reducible rfl | omega | (simp (disch := omega) only [wIn, td2, td4, td8]; done) | (simp (disch := omega) only [wIn, td2, td4, td8]; omega)) (by first | omega | (simp only [Array.size_setIfInBounds, Sort.swp_size]; omega)) ?_
        refine rg_loadD rfl (by first | omega | (simp only [Array.size_setIfInBounds, Sort.swp_size]; omega)) ?_
        skip
        refine rg_indexD (j) rfl rfl (by first | with_reducible rfl | omega | (simp (disch := omega) only [wIn, td2, td4, td8]; done) | (simp (disch := omega) only [wIn, td2, td4, td8]; omega)) (by first | omega | (simp only [Array.size_setIfInBounds, Sort.swp_size]; omega)) ?_
        refine rg_storeD rfl rfl (by first | omega | (simp only [Array.size_setIfInBounds, Sort.swp_size]; omega)) ?_
        skip
        refine rg_indexD (j - 1) rfl rfl (by first | with_reducible rfl | omega | (simp (disch := omega) only [wIn]; done) | (simp (disch := omega) only [wIn]; omega)) (by first | omega | (simp only [Array.size_setIfInBounds, Sort.swp_size]; omega)) ?_
        refine rg_storeD rfl rfl (by first | omega | (simp only [Array.size_setIfInBounds, Sort.swp_size]; omega)) ?_
        repeat (first|refine zA rfl ?_|refine zB rfl rfl rfl ?_|refine zG rfl ?_|refine zQ ?_|refine zS ?_|refine yD ?_)
        refine ex_inLoop ?_
        refine Ex.sup (IH2 (j - 1, Sort.swp f j (j - 1)) ⟨by rw [Sort.swp_size]; exact k1, by dsimp only; omega, by rw [← insInner_step h5' h6]; exact k3⟩ (by dsimp only; omega)) ⟨vi (by first | with_reducible rfl | omega | (simp (disch := omega) only [wIn]; done) | (simp (disch := omega) only [wIn]; omega)), rfl, rfl, rfl, rfl, trivial⟩
      · have e1 : Sort.insInner Sort.ltInt a i e = f := by rw [← k3, insInner_stop (fun h => by exact absurd h.2 (by rw [h6]; decide))]
        repeat (first|refine zA rfl ?_|refine zB rfl rfl rfl ?_|refine zG rfl ?_|refine zQ ?_|refine zS ?_|refine yD ?_|refine yE rfl ?_)
        refine ex_inLoop ?_
        refine Ex.sup (IH (i + 1, f) ⟨k1, by dsimp only; omega, by dsimp only; omega, by dsimp only; rw [← h3, insOuter_step h4', e1]⟩ (by dsimp only; omega)) ⟨vi (by first | with_reducible rfl | omega | (simp (disch := omega) only [wIn]; done) | (simp (disch := omega) only [wIn]; omega)), rfl, rfl, rfl, trivial⟩
    · have h5 := of_decide_eq_false h5
      have e1 : Sort.insInner Sort.ltInt a i e = f := by rw [← k3, insInner_stop (fun h => by exact h5 (by omega))]
      repeat (first|refine zA rfl ?_|refine zB rfl rfl rfl ?_|refine zG rfl ?_|refine zK rfl rfl ?_|refine zL rfl rfl rfl rfl (by decide) trivial rfl ?_|refine zQ ?_|refine zS ?_|refine zV rfl ?_|refine yD ?_|refine yE rfl ?_)
      refine ex_inLoop ?_
      refine Ex.sup (IH (i + 1, f) ⟨k1, by dsimp only; omega, by dsimp only; omega, by dsimp only; rw [← h3, insOuter_step h4', e1]⟩ (by dsimp only; omega)) ⟨vi (by first | with_reducible rfl | omega | (simp (disch := omega) only [wIn]; done) | (simp (disch := omega) only [wIn]; omega)), rfl, rfl, rfl, trivial⟩
  · have h4 := of_decide_eq_false h4
    have e1 : Sort.insertionSort Sort.ltInt d a b = e := by rw [← h3, insOuter_stop (by omega)]
    rw [e1] at ret
    repeat refine yE rfl ?_
    exact ex_endc ret Try.func96 rfl ⟨rfl, rfl⟩

end Go.Br
