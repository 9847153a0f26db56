/-
  Lemmas towards the law, proved without conditions of their own: KEEP: a step of either chain keeps all; at the beginning all holds. Plain law; KEEP: the world of the moves in memory.
-/
import Derived.Test.YtedaknlacigbhaaPk20
namespace Go.Br
open Go

variable {T : Int} {s o : Cn} {rs ro : List Rec}

theorem step_link {B : Nat} (hT : T < 1000000) (l : Link T s o rs ro) (oks : Ok B s) (oko : Ok B o) (hB : B < 100000000) (hk : s.known < o.heads.length) (x : Stp) (hx : 0 ≤ x.n ∧ x.n < 18446744073709551616) (ha : 0 ≤ x.p.amount) (nh : Nat) (he : (step s x (knOf s o) nh).2.2 = 0) :
    TookOk x (step s x (knOf s o) nh).2.1 rs ro (step s x (knOf s o) nh).1.hd.opn ∧ Link T (step s x (knOf s o) nh).1 o (tookR x rs ro).1 (tookR x rs ro).2 := by
  have hkm := kn_mem hk
  obtain ⟨okk, _⟩ := knOf_ok (s := s) oko hk
  generalize knOf s o = kn at *
  by_cases k1 : x.kind = 1
  · have e : step s x kn nh = send s x.p := by unfold step; rw [if_pos k1]
    have er : tookR x rs ro = (rs ++ [recOf x.p], ro) := by unfold tookR; rw [if_pos k1]
    rw [e] at he ⊢
    rw [er]
    obtain ⟨h1, h2⟩ := link_send hT l oks hB x.p ha he
    exact ⟨⟨fun _ => h1, fun h => by omega, fun h => by omega, fun h => by omega⟩, h2⟩
  by_cases k4 : x.kind = 4
  · have e : step s x kn nh = ((recv s x.n kn).1, 0, (recv s x.n kn).2) := by unfold step; rw [if_neg k1, if_neg (by omega), if_neg (by omega), if_neg (by omega), if_neg (by omega), if_pos k4]
    rw [e] at he ⊢
    obtain ⟨y, h1, h2, h3, h4, h5⟩ := link_recv hT l oks hB x.n hkm he
    have er : tookR x rs ro = (rs, updR answ ro s.hd.answers.length) := by
      unfold tookR; rw [if_neg k1, if_pos k4, show (x.n - 1).toNat = s.hd.answers.length by omega]
    rw [er]
    refine ⟨⟨fun h => by omega, fun _ => ⟨_, y, h1, h2, h3, h4, fun z hz1 hz2 => ?_⟩, fun h => by omega, fun h => by omega⟩, h5⟩
    have := l.dr.an _ z hz2
    rw [this, if_pos (by omega)]
    split <;> decide
  by_cases k5 : x.kind = 5
  · have e : step s x kn nh = ((ack s x.n kn).1, 0, (ack s x.n kn).2) := by unfold step; rw [if_neg k1, if_neg (by omega), if_neg (by omega), if_neg (by omega), if_neg (by omega), if_neg k4, if_pos k5]
    rw [e] at he ⊢
    obtain ⟨j, y, h1, h2, h3, h4, h5, h6⟩ := link_ack hT l x.n hkm okk he
    have er : tookR x rs ro = (updR unp rs j, ro) := by
      unfold tookR; rw [if_neg k1, if_neg k4, if_pos (.inl k5), show (x.n - 1).toNat = j by omega]
    rw [er]
    exact ⟨⟨fun h => by omega, fun h => by omega, fun _ => ⟨j, y, h1, h2, h3, h4, h5⟩, fun h => by omega⟩, h6⟩
  by_cases k6 : x.kind = 6
  · have e : step s x kn nh = ((back s x.n kn false).1, 0, (back s x.n kn false).2) := by unfold step; rw [if_neg k1, if_neg (by omega), if_neg (by omega), if_neg (by omega), if_neg (by omega), if_neg k4, if_neg k5, if_pos k6]
    rw [e] at he ⊢
    obtain ⟨j, y, h1, h2, h3, h4, h5, h6⟩ := link_back hT l x.n false hkm okk he
    have er : tookR x rs ro = (updR unp rs j, ro) := by
      unfold tookR; rw [if_neg k1, if_neg k4, if_pos (.inr (.inl k6)), show (x.n - 1).toNat = j by omega]
    rw [er]
    exact ⟨⟨fun h => by omega, fun h => by omega, fun h => by omega, fun _ => ⟨j, y, h1, h2, h3, h4, h5⟩⟩, h6⟩
  by_cases k7 : x.kind = 7
  · have e : step s x kn nh = ((back s x.n kn true).1, 0, (back s x.n kn true).2) := by unfold step; rw [if_neg k1, if_neg (by omega), if_neg (by omega), if_neg (by omega), if_neg (by omega), if_neg k4, if_neg k5, if_neg k6, if_pos k7]
    rw [e] at he ⊢
    obtain ⟨j, y, h1, h2, h3, h4, h5, h6⟩ := link_back hT l x.n true hkm okk he
    have er : tookR x rs ro = (updR unp rs j, ro) := by
      unfold tookR; rw [if_neg k1, if_neg k4, if_pos (.inr (.inr k7)), show (x.n - 1).toNat = j by omega]
    rw [er]
    exact ⟨⟨fun h => by omega, fun h => by omega, fun h => by omega, fun _ => ⟨j, y, h1, h2, h3, h4, h5⟩⟩, h6⟩
  have er : tookR x rs ro = (rs, ro) := by unfold tookR; rw [if_neg k1, if_neg k4, if_neg (by omega)]
  rw [er]
  refine ⟨⟨fun h => absurd h k1, fun h => absurd h k4, fun h => absurd h k5, fun h => by omega⟩, ?_⟩
  unfold step at he ⊢
  rw [if_neg k1] at he ⊢
  split
  · rename_i k2
    rw [if_pos k2] at he
    split
    · rename_i h; rw [if_pos h] at he; cases he
    · exact link_tick l oks hB x.n hx.1 (by omega)
  rename_i k2
  rw [if_neg k2] at he
  split
  · rename_i k3
    rw [if_pos k3] at he
    split
    · exact l
    · exact link_shut l rfl rfl rfl rfl id rfl rfl rfl rfl rfl rfl
  rename_i k3
  rw [if_neg k3] at he
  split
  · split
    · exact l
    · exact link_shut l rfl rfl rfl rfl (fun _ => rfl) rfl rfl rfl rfl rfl rfl
  split
  · split
    · exact l
    · split
      · exact l
      · exact link_shut l rfl rfl rfl rfl (fun _ => rfl) rfl rfl rfl rfl rfl rfl
  exact l

/-- What locked coins are: about on the other chain, or under way. -/
theorem Link.kept (l : Link T s o rs ro) : (∀ X, (X = 0 ∨ X = 1) → hasSum s X + hasSum o X + under X rs + under X ro = T) ∧ s.locked = o.about + under s.n rs + under s.n ro ∧ o.locked = s.about + under o.n rs + under o.n ro := by
  have m := l.mon
  refine ⟨m.tot, ?_, ?_⟩
  · have h := m.lockS; have h2 := m.abtO
    rcases l.n with ⟨e1, e2⟩ | ⟨e1, e2⟩
    · have t := m.tot s.n (.inl e1)
      rw [show 1 - o.n = s.n by omega] at h2; omega
    · have t := m.tot s.n (.inr e1)
      rw [show 1 - o.n = s.n by omega] at h2; omega
  · have h := m.lockO; have h2 := m.abtS
    rcases l.n with ⟨e1, e2⟩ | ⟨e1, e2⟩
    · have t := m.tot o.n (.inr e2)
      rw [show 1 - s.n = o.n by omega] at h2; omega
    · have t := m.tot o.n (.inl e2)
      rw [show 1 - s.n = o.n by omega] at h2; omega

/-! the beginning -/

theorem link_new (co : Int) (hc : 0 ≤ co ∧ co < 300000) : Link (3 * co) (newCn 0 co) (newCn 1 co) [] [] := by
  have hd : ∀ n m, Dir (newCn n co) (newCn m co) [] := fun n m => by
    refine ⟨rfl, rfl, ?_, Nat.le_refl _, ?_, ?_, ?_, ?_, ?_, ?_⟩
    · intro h hh q hq
      rw [newCn_heads] at hh
      rw [List.mem_singleton.1 hh] at hq; cases hq
    · intro i x h; simp at h
    · intro i x a h; simp at h
    · intro h hh
      rw [newCn_heads] at hh
      rw [List.mem_singleton.1 hh]; exact ⟨[], rfl⟩
    · intro h hh i x hx; simp at hx
    · intro i x hx; simp at hx
    · intro x hx; cases hx
  have hm : ∀ n, Mono (newCn n co) := fun n => ⟨fun h hh => by
    rw [newCn_heads] at hh
    rw [List.mem_singleton.1 hh]; exact ⟨Int.le_refl _, Int.le_refl _, id⟩⟩
  have hh : ∀ n u X, (newCn n co).has u X = if isUser u = true ∧ X = n then co else 0 := fun _ _ _ => rfl
  have hs : ∀ n X, hasSum (newCn n co) X = if X = n then 3 * co else 0 := fun n X => by
    unfold hasSum
    rw [hh, hh, hh]
    by_cases h : X = n
    · rw [if_pos h, if_pos ⟨by decide, h⟩, if_pos ⟨by decide, h⟩, if_pos ⟨by decide, h⟩]; omega
    · rw [if_neg h, if_neg (fun e => h e.2), if_neg (fun e => h e.2), if_neg (fun e => h e.2)]; rfl
  refine ⟨hd 0 1, hd 1 0, hm 0, hm 1, .inl ⟨rfl, rfl⟩, ⟨fun u X => ⟨?_, ?_⟩, fun X hX => ?_, ?_, ?_, ?_, ?_⟩⟩
  · rw [hh]; split <;> omega
  · rw [hh]; split <;> omega
  · rw [hs, hs]
    show _ + _ + (0 : Int) + 0 = _
    rcases hX with rfl | rfl <;> simp
  · rw [show (newCn 0 co).n = 0 from rfl, hs]; show (0 : Int) + _ = _; simp
  · rw [show (newCn 0 co).n = 0 from rfl, hs]; show (0 : Int) = _; simp
  · rw [show (newCn 1 co).n = 1 from rfl, hs]; show (0 : Int) + _ = _; simp
  · rw [show (newCn 1 co).n = 1 from rfl, hs]; show (0 : Int) = _; simp

end Go.Br

namespace Go.Br
open Go Go.Lx Go.Proofs
set_option maxRecDepth 100000

abbrev rpC (x : Rec) : List Value := pkC x.p
theorem rpC_len : ∀ x, (rpC x).length = 7 := fun _ => rfl
abbrev raC (x : Rec) : List Value := [.int .i64 x.ans]
theorem raC_len : ∀ x, (raC x).length = 1 := fun _ => rfl
abbrev rqC (x : Rec) : List Value := [.bool x.pend]
theorem rqC_len : ∀ x, (rqC x).length = 1 := fun _ => rfl

structure KV where
  s0 : Value
  s1 : Value
  a0 : Value
  a1 : Value
  p0 : Value
  p1 : Value

abbrev kwCells (b : Nat) (v : KV) : List Value := [ptrV b, v.s0, v.s1, v.a0, v.a1, v.p0, v.p1]
abbrev kwC (w b : Nat) (v : KV) : Ch := .pt w true (.cells ⟨kwCells b v⟩ 46 (0, 0))
abbrev ksC (v : Value) (r : List Rec) : Ch := .pr (SlV 49 7 v (r.flatMap rpC) r.length)
abbrev kaC' (v : Value) (r : List Rec) : Ch := .pr (SlV 3 1 v (r.flatMap raC) r.length)
abbrev kpC' (v : Value) (r : List Rec) : Ch := .pr (SlV 4 1 v (r.flatMap rqC) r.length)

abbrev kwL (w b : Nat) (v : KV) (S : Bg) (r0 r1 : List Rec) (Γ : List Ch) : List Ch :=
  kwC w b v :: ksC v.s0 r0 :: ksC v.s1 r1 :: kaC' v.a0 r0 :: kaC' v.a1 r1 :: kpC' v.p0 r0 :: kpC' v.p1 r1 :: .pr (BgAt b S) :: Γ

/-- The world of the moves at a block. -/
def KwAt (w : Nat) (S : Bg) (r0 r1 : List Rec) : LH → Prop := fun h => ∃ z : Nat × KV, Star (kwL w z.1 z.2 S r0 r1 []) h

theorem kw_open {w : Nat} {S : Bg} {r0 r1 : List Rec} {Γ : List Ch} : ∀ h, Star (.pr (KwAt w S r0 r1) :: Γ) h → ∃ z : Nat × KV, True ∧ Star (kwL w z.1 z.2 S r0 r1 Γ) h := fun h st => by
  obtain ⟨z, st⟩ := Star.ex.1 st
  exact ⟨z, trivial, Star.open_.1 st⟩

theorem kw_fold {w b : Nat} {v : KV} {S : Bg} {r0 r1 : List Rec} {Γ : List Ch} : EntR (.pr (KwAt w S r0 r1) :: Γ) (kwL w b v S r0 r1 Γ) := Ent.star fun h st => Star.ex.2 ⟨(b, v), Star.open_.2 st⟩

/-- All that is known of a world of moves. -/
structure KOk (B : Nat) (S : Bg) (r0 r1 : List Rec) : Prop where
  ok : BgOk B S
  link : Link 3000 S.s0 S.s1 r0 r1

theorem KOk.len {B : Nat} {S : Bg} {r0 r1 : List Rec} (k : KOk B S r0 r1) : r0.length ≤ B ∧ r1.length ≤ B := by
  have h0 := k.link.ds.ns; have h1 := k.link.dr.ns
  have n0 := k.ok.ok0.nsend; have n1 := k.ok.ok1.nsend
  omega

theorem under_take (X : Int) : ∀ (r : List Rec) (i : Nat) (h : i < r.length), under X (r.take (i + 1)) = under X (r.take i) + wt X r[i]
  | [], _, h => by cases h
  | x :: r, 0, _ => by simp [under]
  | x :: r, i + 1, h => by
    have := under_take X r i (by simpa using h)
    simp only [List.take_succ_cons, under, List.getElem_cons_succ]; omega

theorem under_take_le (X : Int) (r : List Rec) (h : ∀ x ∈ r, 0 ≤ x.p.amount) (i : Nat) : 0 ≤ under X (r.take i) ∧ under X (r.take i) ≤ under X r := by
  refine ⟨under_nonneg X _ fun x hx => h x (List.mem_of_mem_take hx), ?_⟩
  have : ∀ (a b : List Rec), under X (a ++ b) = under X a + under X b := fun a b => by
    induction a with
    | nil => simp [under]
    | cons x a ih => simp only [List.cons_append, under, ih]; omega
  have e := this (r.take i) (r.drop i)
  rw [List.take_append_drop] at e
  have := under_nonneg X (r.drop i) fun x hx => h x (List.mem_of_mem_drop hx)
  omega

theorem wt_cases (X : Int) (x : Rec) (h1 : x.p.coin = X) (h2 : x.pend = true) (h3 : ¬ x.ans = 1) : wt X x = x.p.amount := by unfold wt; rw [if_pos ⟨h1, h2, h3⟩]
theorem wt_zero1 (X : Int) (x : Rec) (h1 : ¬ x.p.coin = X) : wt X x = 0 := by unfold wt; rw [if_neg (fun e => h1 e.1)]
theorem wt_zero2 (X : Int) (x : Rec) (h1 : x.pend = false) : wt X x = 0 := by unfold wt; rw [if_neg (fun e => by rw [h1] at e; cases e.2.1)]
theorem wt_zero3 (X : Int) (x : Rec) (h1 : x.ans = 1) : wt X x = 0 := by unfold wt; rw [if_neg (fun e => e.2.2 h1)]

end Go.Br
