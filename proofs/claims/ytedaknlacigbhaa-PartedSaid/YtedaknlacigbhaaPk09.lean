/-
  Lemmas towards the law, proved without conditions of their own: THE ABSTRACT BRIDGE: one state of lists for the program and for the reference; what each step does. (The numbers are the model's integers; sums wrap as the language's do.); THE ABSTRACT BRIDGE: what holds of every chain that is reached stays so; the two chains together; HOW THE ABSTRACT BRIDGE LIES IN MEMORY, on the program's side: maps, headers, chains; PLAIN FACTS on the entries of the accounts' map.
-/
import Derived.Calls
import Derived.Test.YtedaknlacigbhaaPk06
import Derived.Test.YtedaknlacigbhaaPk08
namespace Go.Br
open Go

structure Pk where
  seq : Int
  frm : Int
  to : Int
  coin : Int
  amount : Int
  height : Int
  time : Int
  deriving Inhabited, DecidableEq

structure Ans where
  seq : Int
  good : Bool
  deriving Inhabited, DecidableEq

structure Hd where
  height : Int
  time : Int
  opn : Bool
  nrecv : Int
  packets : List Pk
  answers : List Ans
  deriving Inhabited, DecidableEq

structure Cn where
  n : Int
  hd : Hd
  has : Int → Int → Int
  locked : Int
  about : Int
  nsend : Int
  heads : List Hd
  known : Nat

structure Stp where
  kind : Int
  n : Int
  p : Pk
  deriving Inhabited, DecidableEq

abbrev wu (x : Int) : Int := IntKind.wrap .u64 x

def due (p : Pk) (h t : Int) : Bool := (decide (0 < p.height) && decide (p.height ≤ h)) || (decide (0 < p.time) && decide (p.time ≤ t))

def setHas (f : Int → Int → Int) (u c x : Int) : Int → Int → Int := fun u' c' => if u' = u ∧ c' = c then x else f u' c'

def credit (s : Cn) (u c x : Int) : Cn :=
  { s with has := setHas s.has u c (wu (s.has u c + x))
           locked := if c = s.n then wu (s.locked - x) else s.locked
           about := if c = s.n then s.about else wu (s.about + x) }

/-- The place of a packet. -/
def find : List Pk → Int → Nat → Option (Nat × Pk)
  | [], _, _ => none
  | p :: l, q, i => if p.seq = q then some (i, p) else find l q (i + 1)

def findA : List Ans → Int → Option Ans
  | [], _ => none
  | a :: l, q => if a.seq = q then some a else findA l q

def isUser (u : Int) : Bool := decide (0 ≤ u) && decide (u < 3)

/-- A header for what there is. -/
def commit (s : Cn) : Cn := { s with heads := s.heads ++ [s.hd] }

def send (s : Cn) (p : Pk) : Cn × Int × Int :=
  if s.hd.opn = false then (s, 0, 2)
  else if isUser p.frm = false then (s, 0, 3)
  else if p.coin ≠ 0 ∧ p.coin ≠ 1 then (s, 0, 4)
  else if p.amount = 0 then (s, 0, 5)
  else if s.has p.frm p.coin < p.amount then (s, 0, 6)
  else if p.height = 0 ∧ p.time = 0 then (s, 0, 7)
  else
    ({ s with has := setHas s.has p.frm p.coin (wu (s.has p.frm p.coin - p.amount))
              locked := if p.coin = s.n then wu (s.locked + p.amount) else s.locked
              about := if p.coin = s.n then s.about else wu (s.about - p.amount)
              hd := { s.hd with packets := s.hd.packets ++ [{ p with seq := s.nsend }] }
              nsend := wu (s.nsend + 1) }, s.nsend, 0)

def recv (s : Cn) (q : Int) (kn : Hd) : Cn × Int :=
  if s.hd.opn = false then (s, 2)
  else if q ≠ s.hd.nrecv then (s, 9)
  else match find kn.packets q 0 with
    | none => (s, 10)
    | some (_, p) =>
      if due p s.hd.height s.hd.time then (s, 11)
      else
        let s1 := { s with hd := { s.hd with nrecv := wu (s.hd.nrecv + 1), answers := s.hd.answers ++ [⟨q, isUser p.to⟩] } }
        (if isUser p.to then credit s1 p.to p.coin p.amount else s1, 0)

def ack (s : Cn) (q : Int) (kn : Hd) : Cn × Int :=
  match find s.hd.packets q 0 with
  | none => (s, 10)
  | some (i, p) =>
    if i ≠ 0 then (s, 9)
    else match findA kn.answers q with
      | none => (s, 12)
      | some a =>
        let s1 := { s with hd := { s.hd with packets := s.hd.packets.eraseIdx i } }
        (if a.good then s1 else credit s1 p.frm p.coin p.amount, 0)

def back (s : Cn) (q : Int) (kn : Hd) (closed : Bool) : Cn × Int :=
  match find s.hd.packets q 0 with
  | none => (s, 10)
  | some (i, p) =>
    if closed = true ∧ kn.opn = true then (s, 14)
    else if (closed = false ∧ due p kn.height kn.time = false) ∨ q < kn.nrecv then (s, 13)
    else
      let s1 := { s with hd := { s.hd with packets := s.hd.packets.eraseIdx i } }
      let s2 := credit s1 p.frm p.coin p.amount
      ({ s2 with hd := { s2.hd with opn := false } }, 0)

/-- A step: kn: the other's header that is known; nh: how many of the other's headers are seen. -/
def step (s : Cn) (x : Stp) (kn : Hd) (nh : Nat) : Cn × Int × Int :=
  if x.kind = 1 then send s x.p
  else if x.kind = 2 then
    if 18446744073709551615 - s.hd.time < x.n then (s, 0, 15)
    else (commit { s with hd := { s.hd with time := wu (s.hd.time + x.n), height := wu (s.hd.height + 1) } }, 0, 0)
  else if x.kind = 3 then
    if (nh : Int) ≤ x.n ∨ x.n ≤ s.known then (s, 0, 8) else ({ s with known := x.n.toNat }, 0, 0)
  else if x.kind = 8 then
    if s.hd.opn = false then (s, 0, 2) else ({ s with hd := { s.hd with opn := false } }, 0, 0)
  else if x.kind = 9 then
    if s.hd.opn = false then (s, 0, 2) else if kn.opn = true then (s, 0, 14) else ({ s with hd := { s.hd with opn := false } }, 0, 0)
  else if x.kind = 4 then ((recv s x.n kn).1, 0, (recv s x.n kn).2)
  else if x.kind = 5 then ((ack s x.n kn).1, 0, (ack s x.n kn).2)
  else if x.kind = 6 then ((back s x.n kn false).1, 0, (back s x.n kn false).2)
  else if x.kind = 7 then ((back s x.n kn true).1, 0, (back s x.n kn true).2)
  else (s, 0, 16)

def newCn (n coins : Int) : Cn :=
  commit { n := n, hd := { height := 0, time := 0, opn := true, nrecv := 1, packets := [], answers := [] }
           has := fun u c => if isUser u = true ∧ c = n then coins else 0, locked := 0, about := 0, nsend := 1, heads := [], known := 0 }

/-! What holds of every chain that is reached. B: how many steps were taken at most. -/

structure OkPk (p : Pk) : Prop where
  frm : 0 ≤ p.frm ∧ p.frm < 3
  coin : p.coin = 0 ∨ p.coin = 1

structure OkHd (B : Nat) (h : Hd) : Prop where
  height : 0 ≤ h.height ∧ h.height ≤ B
  time : 0 ≤ h.time ∧ h.time < 18446744073709551616
  nrecv : h.nrecv = h.answers.length + 1
  recvB : h.answers.length ≤ B
  sorted : h.packets.Pairwise (fun p q => p.seq < q.seq)
  seqs : ∀ p ∈ h.packets, 1 ≤ p.seq ∧ p.seq ≤ B
  packs : ∀ p ∈ h.packets, OkPk p
  answers : ∀ (i : Nat) (a : Ans), h.answers[i]? = some a → a.seq = (i : Int) + 1

structure Ok (B : Nat) (s : Cn) : Prop where
  hd : OkHd B s.hd
  nsend : 1 ≤ s.nsend ∧ s.nsend ≤ B + 1
  below : ∀ p ∈ s.hd.packets, p.seq < s.nsend
  count : s.hd.packets.length ≤ B
  heads : ∀ h ∈ s.heads, OkHd B h
  len : (s.heads.length : Int) = s.hd.height + 1
  at_ : ∀ (i : Nat) (h : Hd), s.heads[i]? = some h → h.height = i

end Go.Br

namespace Go.Br
open Go

theorem OkHd.mono {B B' : Nat} {h : Hd} (ok : OkHd B h) (hb : B ≤ B') : OkHd B' h :=
  ⟨by have := ok.height; omega, ok.time, ok.nrecv, by have := ok.recvB; omega, ok.sorted, fun p hp => by have := ok.seqs p hp; omega, ok.packs, ok.answers⟩

theorem Ok.mono {B B' : Nat} {s : Cn} (ok : Ok B s) (hb : B ≤ B') : Ok B' s :=
  ⟨ok.hd.mono hb, by have := ok.nsend; omega, ok.below, by have := ok.count; omega, fun h hh => (ok.heads h hh).mono hb, ok.len, ok.at_⟩

theorem wu_id {x : Int} (h : 0 ≤ x ∧ x < 18446744073709551616) : wu x = x := by
  have h1 : x % 2 ^ 64 = x := by omega
  simp only [wu, IntKind.wrap, IntKind.bits, IntKind.signed, h1, Bool.false_and, Bool.false_eq_true, if_false]

theorem credit_hd (s : Cn) (u c x : Int) : (credit s u c x).hd = s.hd := rfl
theorem credit_ok {B : Nat} {s : Cn} (u c x : Int) (ok : Ok B s) : Ok B (credit s u c x) := ⟨ok.hd, ok.nsend, ok.below, ok.count, ok.heads, ok.len, ok.at_⟩

theorem send_keeps {B : Nat} {s : Cn} (ok : Ok B s) (hB : B < 100000000) (p : Pk) : Ok (B + 1) (send s p).1 := by
  have om := ok.mono (Nat.le_succ B)
  unfold send
  split; · exact om
  split; · exact om
  split; · exact om
  split; · exact om
  split; · exact om
  split; · exact om
  rename_i h1 h2 h3 h4 h5 h6
  have hn := ok.nsend
  have hw : wu (s.nsend + 1) = s.nsend + 1 := wu_id (by omega)
  have hfrm : 0 ≤ p.frm ∧ p.frm < 3 := by
    have : isUser p.frm = true := by simpa using h2
    simpa [isUser] using this
  have hmem : ∀ {q : Pk}, q ∈ s.hd.packets ++ [{ p with seq := s.nsend }] → q ∈ s.hd.packets ∨ q = { p with seq := s.nsend } := fun hq => by
    rcases List.mem_append.1 hq with h | h
    · exact .inl h
    · exact .inr (List.mem_singleton.1 h)
  refine ⟨⟨om.hd.height, om.hd.time, om.hd.nrecv, om.hd.recvB, ?_, ?_, ?_, om.hd.answers⟩, ?_, ?_, ?_, om.heads, om.len, om.at_⟩
  · show (s.hd.packets ++ [{ p with seq := s.nsend }]).Pairwise _
    rw [List.pairwise_append]
    exact ⟨ok.hd.sorted, by simp, fun a ha b hb => by rw [List.mem_singleton.1 hb]; exact ok.below a ha⟩
  · intro q hq
    rcases hmem hq with h | h
    · exact om.hd.seqs q h
    · subst h; show 1 ≤ s.nsend ∧ s.nsend ≤ _; omega
  · intro q hq
    rcases hmem hq with h | h
    · exact ok.hd.packs q h
    · subst h; exact ⟨hfrm, by show p.coin = 0 ∨ p.coin = 1; omega⟩
  · show 1 ≤ wu (s.nsend + 1) ∧ wu (s.nsend + 1) ≤ _
    rw [hw]; omega
  · intro q hq
    show q.seq < wu (s.nsend + 1)
    rw [hw]
    rcases hmem hq with h | h
    · have := ok.below q h; omega
    · subst h; show s.nsend < _; omega
  · show (s.hd.packets ++ [{ p with seq := s.nsend }]).length ≤ _
    rw [List.length_append]; have := ok.count; simp; omega

theorem erase_ok {B : Nat} {s : Cn} (ok : Ok B s) (i : Nat) : Ok B { s with hd := { s.hd with packets := s.hd.packets.eraseIdx i } } := by
  have hs : (s.hd.packets.eraseIdx i).Sublist s.hd.packets := List.eraseIdx_sublist _ _
  exact ⟨⟨ok.hd.height, ok.hd.time, ok.hd.nrecv, ok.hd.recvB, ok.hd.sorted.sublist hs, fun p hp => ok.hd.seqs p (hs.subset hp), fun p hp => ok.hd.packs p (hs.subset hp), ok.hd.answers⟩,
    ok.nsend, fun p hp => ok.below p (hs.subset hp), Nat.le_trans hs.length_le ok.count, ok.heads, ok.len, ok.at_⟩

theorem shut_ok {B : Nat} {s : Cn} (ok : Ok B s) (t : Bool) : Ok B { s with hd := { s.hd with opn := t } } :=
  ⟨⟨ok.hd.height, ok.hd.time, ok.hd.nrecv, ok.hd.recvB, ok.hd.sorted, ok.hd.seqs, ok.hd.packs, ok.hd.answers⟩, ok.nsend, ok.below, ok.count, ok.heads, ok.len, ok.at_⟩

theorem recv_keeps {B : Nat} {s : Cn} (ok : Ok B s) (hB : B < 100000000) (q : Int) (kn : Hd) : Ok (B + 1) (recv s q kn).1 := by
  have om := ok.mono (Nat.le_succ B)
  unfold recv
  split; · exact om
  split; · exact om
  rename_i h1 h2
  split; · exact om
  rename_i i p hf
  split; · exact om
  have hn := ok.hd.nrecv
  have hr := ok.hd.recvB
  have hw : wu (s.hd.nrecv + 1) = s.hd.nrecv + 1 := wu_id (by omega)
  have hq : q = s.hd.nrecv := by simpa using h2
  have key : Ok (B + 1) { s with hd := { s.hd with nrecv := wu (s.hd.nrecv + 1), answers := s.hd.answers ++ [⟨q, isUser p.to⟩] } } := by
    refine ⟨⟨om.hd.height, om.hd.time, ?_, ?_, om.hd.sorted, om.hd.seqs, om.hd.packs, ?_⟩, om.nsend, om.below, om.count, om.heads, om.len, om.at_⟩
    · show wu (s.hd.nrecv + 1) = ((s.hd.answers ++ [(⟨q, isUser p.to⟩ : Ans)]).length : Int) + 1
      rw [hw, List.length_append]; simp; omega
    · show (s.hd.answers ++ [(⟨q, isUser p.to⟩ : Ans)]).length ≤ _
      rw [List.length_append]; simp; omega
    · intro i a ha
      rcases Nat.lt_or_ge i s.hd.answers.length with hl | hl
      · rw [List.getElem?_append_left hl] at ha
        exact ok.hd.answers i a ha
      · rw [List.getElem?_append_right hl] at ha
        have h0 : i - s.hd.answers.length = 0 := by
          rcases Nat.eq_zero_or_pos (i - s.hd.answers.length) with h | h
          · exact h
          · obtain ⟨k, hk⟩ : ∃ k, i - s.hd.answers.length = k + 1 := ⟨_, (Nat.succ_pred_eq_of_pos h).symm⟩
            rw [hk] at ha; simp at ha
        rw [h0] at ha
        simp at ha
        subst ha
        show q = (i : Int) + 1
        omega
  dsimp only
  split
  · exact credit_ok _ _ _ key
  · exact key

theorem ack_keeps {B : Nat} {s : Cn} (ok : Ok B s) (q : Int) (kn : Hd) : Ok (B + 1) (ack s q kn).1 := by
  have om := ok.mono (Nat.le_succ B)
  unfold ack
  split; · exact om
  split; · exact om
  split; · exact om
  dsimp only
  split
  · exact erase_ok om _
  · exact credit_ok _ _ _ (erase_ok om _)

theorem back_keeps {B : Nat} {s : Cn} (ok : Ok B s) (q : Int) (kn : Hd) (cl : Bool) : Ok (B + 1) (back s q kn cl).1 := by
  have om := ok.mono (Nat.le_succ B)
  unfold back
  split; · exact om
  split; · exact om
  split; · exact om
  dsimp only
  exact shut_ok (credit_ok _ _ _ (erase_ok om _)) false

theorem tick_keeps {B : Nat} {s : Cn} (ok : Ok B s) (hB : B < 100000000) (n : Int) (hn : 0 ≤ n) (ht : n ≤ 18446744073709551615 - s.hd.time) :
    Ok (B + 1) (commit { s with hd := { s.hd with time := wu (s.hd.time + n), height := wu (s.hd.height + 1) } }) := by
  have om := ok.mono (Nat.le_succ B)
  have h1 := ok.hd.time
  have h2 := ok.hd.height
  have hl := ok.len
  have w1 : wu (s.hd.time + n) = s.hd.time + n := wu_id (by omega)
  have w2 : wu (s.hd.height + 1) = s.hd.height + 1 := wu_id (by omega)
  have hh : OkHd (B + 1) { s.hd with time := wu (s.hd.time + n), height := wu (s.hd.height + 1) } := by
    refine ⟨?_, ?_, om.hd.nrecv, om.hd.recvB, om.hd.sorted, om.hd.seqs, om.hd.packs, om.hd.answers⟩
    · show 0 ≤ wu (s.hd.height + 1) ∧ wu (s.hd.height + 1) ≤ _
      rw [w2]; omega
    · show 0 ≤ wu (s.hd.time + n) ∧ wu (s.hd.time + n) < _
      rw [w1]; omega
  refine ⟨hh, om.nsend, om.below, om.count, ?_, ?_, ?_⟩
  · intro h hm
    rcases List.mem_append.1 hm with hm | hm
    · exact om.heads h hm
    · rw [List.mem_singleton.1 hm]; exact hh
  · show ((s.heads ++ [_]).length : Int) = wu (s.hd.height + 1) + 1
    rw [w2, List.length_append]; simp; omega
  · intro i h hi
    have hi' : (s.heads ++ [{ s.hd with time := wu (s.hd.time + n), height := wu (s.hd.height + 1) }])[i]? = some h := hi
    rcases Nat.lt_or_ge i s.heads.length with hlt | hge
    · rw [List.getElem?_append_left hlt] at hi'
      exact ok.at_ i h hi'
    · rw [List.getElem?_append_right hge] at hi'
      have h0 : i - s.heads.length = 0 := by
        rcases Nat.eq_zero_or_pos (i - s.heads.length) with h | h
        · exact h
        · obtain ⟨k, hk⟩ : ∃ k, i - s.heads.length = k + 1 := ⟨_, (Nat.succ_pred_eq_of_pos h).symm⟩
          rw [hk] at hi'; simp at hi'
      rw [h0] at hi'
      simp at hi'
      subst hi'
      show wu (s.hd.height + 1) = i
      rw [w2]; omega

theorem step_keeps {B : Nat} {s : Cn} (ok : Ok B s) (hB : B < 100000000) (x : Stp) (hx : 0 ≤ x.n) (kn : Hd) (nh : Nat) : Ok (B + 1) (step s x kn nh).1 := by
  have om := ok.mono (Nat.le_succ B)
  unfold step
  split; · exact send_keeps ok hB x.p
  split
  · split
    · exact om
    · exact tick_keeps ok hB x.n hx (by omega)
  split
  · split
    · exact om
    · exact ⟨om.hd, om.nsend, om.below, om.count, om.heads, om.len, om.at_⟩
  split
  · split
    · exact om
    · exact shut_ok om false
  split
  · split
    · exact om
    · split
      · exact om
      · exact shut_ok om false
  split; · exact recv_keeps ok hB x.n kn
  split; · exact ack_keeps ok x.n kn
  split; · exact back_keeps ok x.n kn false
  split; · exact back_keeps ok x.n kn true
  exact om

/-- What a step leaves: the chain's number; its old headers; which header it knows. -/
theorem step_frame (s : Cn) (x : Stp) (kn : Hd) (nh : Nat) : (step s x kn nh).1.n = s.n ∧ (∃ l, (step s x kn nh).1.heads = s.heads ++ l) ∧
    (step s x kn nh).1.known = (if x.kind = 3 then (if (nh : Int) ≤ x.n ∨ x.n ≤ s.known then s.known else x.n.toNat) else s.known) := by
  have fin : ∀ r : Cn, r.n = s.n → r.heads = s.heads → r.known = s.known → x.kind ≠ 3 → (step s x kn nh).1 = r → (step s x kn nh).1.n = s.n ∧ (∃ l, (step s x kn nh).1.heads = s.heads ++ l) ∧
    (step s x kn nh).1.known = (if x.kind = 3 then (if (nh : Int) ≤ x.n ∨ x.n ≤ s.known then s.known else x.n.toNat) else s.known) := fun r h1 h2 h3 h4 e => by
    rw [e, if_neg h4]; exact ⟨h1, ⟨[], by rw [h2, List.append_nil]⟩, h3⟩
  by_cases h1 : x.kind = 1
  · have e : (step s x kn nh).1 = (send s x.p).1 := by unfold step; rw [if_pos h1]
    refine fin _ ?_ ?_ ?_ (by omega) e <;> (unfold send; repeat' (first | split | rfl))
  by_cases h2 : x.kind = 2
  · by_cases ht : 18446744073709551615 - s.hd.time < x.n
    · refine fin s rfl rfl rfl (by omega) ?_
      unfold step; rw [if_neg h1, if_pos h2, if_pos ht]
    · have e : (step s x kn nh).1 = commit { s with hd := { s.hd with time := wu (s.hd.time + x.n), height := wu (s.hd.height + 1) } } := by
        unfold step; rw [if_neg h1, if_pos h2, if_neg ht]
      rw [e, if_neg (by omega)]
      exact ⟨rfl, ⟨_, rfl⟩, rfl⟩
  by_cases h3 : x.kind = 3
  · by_cases ht : (nh : Int) ≤ x.n ∨ x.n ≤ s.known
    · have e : (step s x kn nh).1 = s := by unfold step; rw [if_neg h1, if_neg h2, if_pos h3, if_pos ht]
      rw [e, if_pos h3, if_pos ht]
      exact ⟨rfl, ⟨[], by simp⟩, rfl⟩
    · have e : (step s x kn nh).1 = { s with known := x.n.toNat } := by unfold step; rw [if_neg h1, if_neg h2, if_pos h3, if_neg ht]
      rw [e, if_pos h3, if_neg ht]
      exact ⟨rfl, ⟨[], by simp⟩, rfl⟩
  by_cases h8 : x.kind = 8
  · have e : (step s x kn nh).1 = (if s.hd.opn = false then (s, (0 : Int), (2 : Int)) else ({ s with hd := { s.hd with opn := false } }, 0, 0)).1 := by unfold step; rw [if_neg h1, if_neg h2, if_neg h3, if_pos h8]
    refine fin _ ?_ ?_ ?_ h3 e <;> (split <;> rfl)
  by_cases h9 : x.kind = 9
  · have e : (step s x kn nh).1 = (if s.hd.opn = false then (s, (0 : Int), (2 : Int)) else if kn.opn = true then (s, 0, 14) else ({ s with hd := { s.hd with opn := false } }, 0, 0)).1 := by unfold step; rw [if_neg h1, if_neg h2, if_neg h3, if_neg h8, if_pos h9]
    refine fin _ ?_ ?_ ?_ h3 e <;> (split; rfl; split <;> rfl)
  by_cases h4 : x.kind = 4
  · have e : (step s x kn nh).1 = (recv s x.n kn).1 := by unfold step; rw [if_neg h1, if_neg h2, if_neg h3, if_neg h8, if_neg h9, if_pos h4]
    refine fin _ ?_ ?_ ?_ h3 e <;> (unfold recv; repeat' (first | split | rfl); dsimp only; repeat' (first | split | rfl))
  by_cases h5 : x.kind = 5
  · have e : (step s x kn nh).1 = (ack s x.n kn).1 := by unfold step; rw [if_neg h1, if_neg h2, if_neg h3, if_neg h8, if_neg h9, if_neg h4, if_pos h5]
    refine fin _ ?_ ?_ ?_ h3 e <;> (unfold ack; repeat' (first | split | rfl); dsimp only; repeat' (first | split | rfl))
  by_cases h6 : x.kind = 6
  · have e : (step s x kn nh).1 = (back s x.n kn false).1 := by unfold step; rw [if_neg h1, if_neg h2, if_neg h3, if_neg h8, if_neg h9, if_neg h4, if_neg h5, if_pos h6]
    refine fin _ ?_ ?_ ?_ h3 e <;> (unfold back; repeat' (first | split | rfl))
  by_cases h7 : x.kind = 7
  · have e : (step s x kn nh).1 = (back s x.n kn true).1 := by unfold step; rw [if_neg h1, if_neg h2, if_neg h3, if_neg h8, if_neg h9, if_neg h4, if_neg h5, if_neg h6, if_pos h7]
    refine fin _ ?_ ?_ ?_ h3 e <;> (unfold back; repeat' (first | split | rfl))
  refine fin s rfl rfl rfl h3 ?_
  unfold step; rw [if_neg h1, if_neg h2, if_neg h3, if_neg h8, if_neg h9, if_neg h4, if_neg h5, if_neg h6, if_neg h7]

/-! ### Both chains -/

structure Bg where
  s0 : Cn
  s1 : Cn
  tk : Int

/-- The other's header that a chain knows. -/
def knOf (s o : Cn) : Hd := o.heads.getD s.known default

/-- A step of one chain; which of the other's headers are seen. -/
def bgStep (S : Bg) (c : Int) (x : Stp) (nh : Nat) : Bg × Int × Int :=
  if c = 0 then
    let r := step S.s0 x (knOf S.s0 S.s1) nh
    ({ S with s0 := r.1, tk := if r.2.2 = 0 then S.tk + 1 else S.tk }, r.2.1, r.2.2)
  else if c = 1 then
    let r := step S.s1 x (knOf S.s1 S.s0) nh
    ({ S with s1 := r.1, tk := if r.2.2 = 0 then S.tk + 1 else S.tk }, r.2.1, r.2.2)
  else (S, 0, 1)

def bgDo (S : Bg) (c : Int) (x : Stp) : Bg × Int × Int := bgStep S c x (if c = 0 then S.s1.heads.length else S.s0.heads.length)

structure BgOk (B : Nat) (S : Bg) : Prop where
  ok0 : Ok B S.s0
  ok1 : Ok B S.s1
  n0 : S.s0.n = 0
  n1 : S.s1.n = 1
  k0 : S.s0.known < S.s1.heads.length
  k1 : S.s1.known < S.s0.heads.length
  tk : 0 ≤ S.tk ∧ S.tk ≤ B

theorem BgOk.mono {B B' : Nat} {S : Bg} (ok : BgOk B S) (h : B ≤ B') : BgOk B' S :=
  ⟨ok.ok0.mono h, ok.ok1.mono h, ok.n0, ok.n1, ok.k0, ok.k1, by have := ok.tk; omega⟩

theorem bgStep_keeps {B : Nat} {S : Bg} (ok : BgOk B S) (hB : B < 100000000) (c : Int) (x : Stp) (hx : 0 ≤ x.n) (nh : Nat) (hnh : nh ≤ (if c = 0 then S.s1.heads.length else S.s0.heads.length)) : BgOk (B + 1) (bgStep S c x nh).1 := by
  have htk := ok.tk
  unfold bgStep
  split
  · rename_i hc
    rw [if_pos hc] at hnh
    obtain ⟨f1, ⟨l, f2⟩, f3⟩ := step_frame S.s0 x (knOf S.s0 S.s1) nh
    refine ⟨step_keeps ok.ok0 hB x hx _ _, ok.ok1.mono (Nat.le_succ B), by rw [← ok.n0]; exact f1, ok.n1, ?_, ?_, ?_⟩
    · show (step S.s0 x (knOf S.s0 S.s1) nh).1.known < S.s1.heads.length
      rw [f3]
      have := ok.k0
      split
      · split
        · exact this
        · omega
      · exact this
    · show S.s1.known < (step S.s0 x (knOf S.s0 S.s1) nh).1.heads.length
      rw [f2, List.length_append]; have := ok.k1; omega
    · dsimp only; split <;> omega
  split
  · rename_i hc hc1
    rw [if_neg hc] at hnh
    obtain ⟨f1, ⟨l, f2⟩, f3⟩ := step_frame S.s1 x (knOf S.s1 S.s0) nh
    refine ⟨ok.ok0.mono (Nat.le_succ B), step_keeps ok.ok1 hB x hx _ _, ok.n0, by rw [← ok.n1]; exact f1, ?_, ?_, ?_⟩
    · show S.s0.known < (step S.s1 x (knOf S.s1 S.s0) nh).1.heads.length
      rw [f2, List.length_append]; have := ok.k0; omega
    · show (step S.s1 x (knOf S.s1 S.s0) nh).1.known < S.s0.heads.length
      rw [f3]
      have := ok.k1
      split
      · split
        · exact this
        · omega
      · exact this
    · dsimp only; split <;> omega
  · exact ok.mono (Nat.le_succ B)

theorem getD_append {l l' : List Hd} {i : Nat} (h : i < l.length) : (l ++ l').getD i default = l.getD i default := by
  rw [List.getD_eq_getElem?_getD, List.getD_eq_getElem?_getD, List.getElem?_append_left h]

/-- The other's step doesn't turn what a chain knows. -/
theorem knOf_other {B : Nat} {S : Bg} (ok : BgOk B S) (x : Stp) (kn : Hd) (nh : Nat) : knOf S.s1 (step S.s0 x kn nh).1 = knOf S.s1 S.s0 ∧ knOf S.s0 (step S.s1 x kn nh).1 = knOf S.s0 S.s1 := by
  obtain ⟨_, ⟨l, f2⟩, _⟩ := step_frame S.s0 x kn nh
  obtain ⟨_, ⟨l', f2'⟩, _⟩ := step_frame S.s1 x kn nh
  unfold knOf
  rw [f2, f2']
  exact ⟨getD_append ok.k1, getD_append ok.k0⟩

theorem knOf_ok {B : Nat} {s o : Cn} (ok : Ok B o) (h : s.known < o.heads.length) : OkHd B (knOf s o) ∧ (knOf s o).height = s.known := by
  have e : o.heads[s.known]? = some (knOf s o) := by
    unfold knOf
    rw [List.getD_eq_getElem?_getD, List.getElem?_eq_getElem h]; rfl
  exact ⟨ok.heads _ (List.mem_of_getElem? e), ok.at_ _ _ e⟩

theorem newOk (co : Int) (hc : 0 ≤ co ∧ co ≤ 1152921504606846976) : BgOk 1 ⟨newCn 0 co, newCn 1 co, 0⟩ := by
  have h0 : OkHd 1 { height := 0, time := 0, opn := true, nrecv := 1, packets := [], answers := [] } :=
    ⟨by decide, by decide, by decide, by decide, List.Pairwise.nil, by simp, by simp, by simp⟩
  have key : ∀ n, Ok 1 (newCn n co) := fun n => by
    refine ⟨h0, (by show 1 ≤ (1 : Int) ∧ (1 : Int) ≤ _; omega), (by intro p hp; exact absurd hp (by simp [newCn, commit])), (by show ([] : List Pk).length ≤ 1; simp), ?_, rfl, ?_⟩
    · intro h hm
      rw [show (newCn n co).heads = [_] from rfl] at hm
      rw [List.mem_singleton.1 hm]; exact h0
    · intro i h hi
      rw [show (newCn n co).heads = [_] from rfl] at hi
      cases i with
      | zero => simp at hi; subst hi; rfl
      | succ i => simp at hi
  exact ⟨key 0, key 1, rfl, rfl, by show 0 < ([_] : List Hd).length; simp, by show 0 < ([_] : List Hd).length; simp, by show 0 ≤ (0 : Int) ∧ (0 : Int) ≤ _; omega⟩

end Go.Br

namespace Go.Br
open Go Go.Lx Go.Proofs
set_option maxRecDepth 100000

abbrev pkV (p : Pk) : Value := .agg ⟨[.int .u64 p.seq, .int .i64 p.frm, .int .i64 p.to, .int .i64 p.coin, .int .u64 p.amount, .int .u64 p.height, .int .u64 p.time]⟩
abbrev stV (x : Stp) : Value := .agg ⟨[.int .i64 x.kind, .int .u64 x.n, .int .u64 x.p.seq, .int .i64 x.p.frm, .int .i64 x.p.to, .int .i64 x.p.coin, .int .u64 x.p.amount, .int .u64 x.p.height, .int .u64 x.p.time]⟩

def pI (p : Pk) : Int × Value × Nat := (p.seq, pkV p, (p.seq - 1).toNat)
def aI (a : Ans) : Int × Value × Nat := (a.seq, .int .i64 (if a.good then 1 else 2), (a.seq - 1).toNat)
def pEs (l : List Pk) : List MapEntry := (l.map pI).map (ient .u64)
def aEs (l : List Ans) : List MapEntry := (l.map aI).map (ient .u64)

theorem findI_pI (q : Int) : ∀ (l : List Pk) (i : Nat), findI (l.map pI) q i = (find l q i).map fun (i, p) => (i, pkV p) := by
  intro l
  induction l with
  | nil => intro i; rfl
  | cons p l ih =>
    intro i
    simp only [List.map_cons, findI, find, pI]
    by_cases h : p.seq = q
    · simp [h]
    · have h' : ¬ q = p.seq := fun e => h e.symm
      simp only [h, h', if_false]
      exact ih (i + 1)

theorem findK_pk (q : Int) (l : List Pk) : FindK Try.prog 36 (.int .u64 q) (pEs l) ((find l q 0).map fun (i, p) => (i, pkV p)) := by
  rw [← findI_pI]; exact findK_int q _

theorem findI_aI (q : Int) : ∀ (l : List Ans) (i : Nat), (findI (l.map aI) q i).map (·.2) = (findA l q).map fun a => (.int .i64 (if a.good then 1 else 2) : Value) := by
  intro l
  induction l with
  | nil => intro i; rfl
  | cons a l ih =>
    intro i
    simp only [List.map_cons, findI, findA, aI]
    by_cases h : a.seq = q
    · simp [h]
    · have h' : ¬ q = a.seq := fun e => h e.symm
      simp only [h, h', if_false]
      exact ih (i + 1)

/-! accounts -/

abbrev purse (u c : Int) : Value := .agg ⟨[.int .i64 u, .int .i64 c]⟩
abbrev UE := Int × Int × Int × Nat
def uEnt (x : UE) : MapEntry := ⟨purse x.1 x.2.1, .int .u64 x.2.2.1, x.2.2.2⟩

def findU : List UE → Int → Int → Nat → Option (Nat × Value)
  | [], _, _, _ => none
  | x :: l, u, c, i => if u = x.1 ∧ c = x.2.1 then some (i, .int .u64 x.2.2.1) else findU l u c (i + 1)

theorem purse_under : Try.prog.underlying 156 = some (.struct ⟨[⟨ "user", 3, 0, false, "", "bridge/chain", 0⟩, ⟨ "coin", 3, 1, false, "", "bridge/chain", 8⟩]⟩) := Try.underlying156
theorem purse_held : Try.prog.stoodInHeld 156 = false := by kernel_rfl

theorem wpE_checkInt {b : Bool} {m : Nat} {kk : IntKind} {a : Int} {h : LH} {Q : Unit → LH → Prop} (q : Q () h) : wpE Try.prog (Instr.checkKey b (m + 1) 3 (.int kk a)) Q h := by
  rw [Instr.checkKey, wpE_bind', wpE_underlying (Under.eq (P := Try.prog) (t := 3) (d := .int .i64))]
  exact q

theorem wpE_checkPurse {b : Bool} {m : Nat} {u c : Int} {h : LH} {Q : Unit → LH → Prop} (q : Q () h) : wpE Try.prog (Instr.checkKey b (m + 2) 156 (purse u c)) Q h := by
  rw [Instr.checkKey, wpE_bind', wpE_underlying purse_under]
  dsimp only
  rw [wpE_bind', List.forIn_toArray]
  simp only [List.forIn_cons, List.forIn_nil]
  rw [if_pos (by decide), if_pos (by decide)]
  simp only [wpE_bind']
  refine wpE_part (v := .int .i64 u) rfl (wpE_checkInt ?_)
  simp only [wpE_pure, wpE_bind']
  refine wpE_part (v := .int .i64 c) rfl (wpE_checkInt ?_)
  exact q

theorem keyOK_purse (u c : Int) : KeyOK Try.prog 156 (purse u c) where
  check := fun b h Q q => wpE_checkPurse (m := 9998) q
  same := by simp [Instr.sameBits]

theorem wpE_eqPurse {u c u' c' : Int} {h : LH} {Q : Bool → LH → Prop} (q : Q (decide (u = u') && decide (c = c')) h) : wpE Try.prog (Op.equal 156 (purse u c) (purse u' c')) Q h := by
  show wpE Try.prog (Op.equalIn (9999 + 1) _ _ _) Q h
  refine wpE_eqStruct (rs := [decide (u = u'), decide (c = c')]) purse_under purse_held ?_ ?_
  · exact ⟨eqF_int (by decide) rfl rfl, eqF_int (by decide) rfl rfl, trivial⟩
  · simpa using q

theorem findAsk_purse (u c : Int) {Q : Option (Nat × Value) → LH → Prop} {h : LH} : ∀ (l : List UE) (i : Nat), Q (findU l u c i) h → wpE Try.prog (Instr.findAsking 156 (purse u c) (l.map uEnt) i) Q h := by
  intro l
  induction l with
  | nil => intro i q; exact q
  | cons x l ih =>
    intro i q
    simp only [List.map_cons, Instr.findAsking, wpE_bind', uEnt]
    refine wpE_eqPurse ?_
    simp only [findU] at q
    by_cases h : u = x.1 ∧ c = x.2.1
    · simp only [h, and_self, if_true] at q
      simp only [h, decide_true, Bool.and_self, if_true]
      exact q
    · simp only [h, if_false] at q
      have : (decide (u = x.1) && decide (c = x.2.1)) = false := by
        rw [← Bool.decide_and]; simp only [decide_eq_false_iff_not]; exact h
      simp only [this, Bool.false_eq_true, if_false]
      exact ih (i + 1) q

theorem findK_purse (u c : Int) (l : List UE) : FindK Try.prog 156 (purse u c) (l.map uEnt) (findU l u c 0) := fun h Q q => by
  unfold Instr.findKey
  rw [wpE_bind', wpE_underlying purse_under]
  cases l with
  | nil => exact q
  | cons x l => exact findAsk_purse u c (x :: l) 0 q

/-- What the entries say of what accounts have. -/
structure PurseOK (l : List UE) (ck : Nat) (has : Int → Int → Int) : Prop where
  val : ∀ u c, .int .u64 (has u c) = ((findU l u c 0).map (·.2)).getD (.int .u64 0)
  keys : l.Pairwise (fun x y => ¬ (x.1 = y.1 ∧ x.2.1 = y.2.1))
  born : l.Pairwise (fun x y => x.2.2.2 ≠ y.2.2.2)
  lt : ∀ x ∈ l, x.2.2.2 < ck

/-! headers and chains -/

abbrev hdCells (x : Hd) (m1 m2 : Nat) : List Value :=
  [.int .u64 x.height, .int .u64 x.time, .bool x.opn, .int .u64 x.nrecv, .int .i64 x.packets.length, .int .i64 x.answers.length, .map (some m1), .map (some m2)]

def HeadAt (hp : Nat) (x : Hd) : LH → Prop := fun h => ∃ m1 m2 c1 c2,
  Star [.pt hp false (.cells ⟨hdCells x m1 m2⟩ 150 (0, 0)), .pt m1 false (.map ⟨pEs x.packets⟩ c1), .pt m2 false (.map ⟨aEs x.answers⟩ c2)] h

theorem pers_headAt (hp : Nat) (x : Hd) : Pers (HeadAt hp x) := fun h ⟨m1, m2, c1, c2, s⟩ =>
  ⟨m1, m2, c1, c2, pers_star (by
    intro c hc
    rcases List.mem_cons.1 hc with e | hc
    · subst e; exact pers_pt
    rcases List.mem_cons.1 hc with e | hc
    · subst e; exact pers_pt
    rcases List.mem_cons.1 hc with e | hc
    · subst e; exact pers_pt
    · cases hc) h s⟩

abbrev ptrV (b : Nat) : Value := .pointer (some ⟨b, 0, none⟩)

/-- Headers, by their blocks. -/
def HeadsAt : List Nat → List Hd → LH → Prop
  | [], [] => fun _ => True
  | p :: ps, x :: xs => Star [.pr (HeadAt p x), .pr (HeadsAt ps xs)]
  | _, _ => fun _ => False

theorem pers_headsAt : ∀ (ps : List Nat) (xs : List Hd), Pers (HeadsAt ps xs)
  | [], [] => fun _ _ => trivial
  | p :: ps, x :: xs => pers_star (by
      intro c hc
      rcases List.mem_cons.1 hc with e | hc
      · subst e; exact pers_headAt p x
      rcases List.mem_cons.1 hc with e | hc
      · subst e; exact pers_headsAt ps xs
      · cases hc)
  | [], _ :: _ => fun _ h => h.elim
  | _ :: _, [] => fun _ h => h.elim

theorem headsAt_len : ∀ (ps : List Nat) (xs : List Hd) (h : LH), HeadsAt ps xs h → ps.length = xs.length
  | [], [], _, _ => rfl
  | _ :: ps, _ :: xs, _, s => by
    obtain ⟨_, _, _, _, h3, _, _, s4, _⟩ := s
    have := headsAt_len ps xs h3 s4
    simp [this]
  | [], _ :: _, _, s => s.elim
  | _ :: _, [], _, s => s.elim

/-- One of them, beside all. -/
theorem headsAt_get : ∀ (ps : List Nat) (xs : List Hd) (i : Nat) (p : Nat) (x : Hd), ps[i]? = some p → xs[i]? = some x → ∀ h, HeadsAt ps xs h → HeadAt p x (roPart h)
  | [], [], i, p, x, h1, _, _, _ => by simp at h1
  | p0 :: ps, x0 :: xs, 0, p, x, h1, h2, h, s => by
    simp at h1 h2; subst h1; subst h2
    obtain ⟨h1, h2, j, a, _⟩ := s
    obtain ⟨m1, m2, c1, c2, st⟩ := pers_headAt _ _ _ a
    exact ⟨m1, m2, c1, c2, st.more (roPart_Join j)⟩
  | p0 :: ps, x0 :: xs, i + 1, p, x, h1, h2, h, s => by
    simp at h1 h2
    obtain ⟨ha, hb, j, _, hc, hd, j2, s2, _⟩ := s
    obtain ⟨m1, m2, c1, c2, st⟩ := headsAt_get ps xs i p x h1 h2 hc s2
    exact ⟨m1, m2, c1, c2, (st.more (roPart_Join j2)).more (roPart_Join j.comm)⟩
  | [], _ :: _, _, _, _, _, _, _, s => s.elim
  | _ :: _, [], _, _, _, _, _, _, s => s.elim

theorem ent_headsGet {ps : List Nat} {xs : List Hd} {i p : Nat} {x : Hd} {Γ : List Ch} (h1 : ps[i]? = some p) (h2 : xs[i]? = some x) : Ent (.pr (HeadsAt ps xs) :: Γ) (.pr (HeadAt p x) :: .pr (HeadsAt ps xs) :: Γ) := .star fun h s => by
  obtain ⟨ha, hb, j, sa, s2⟩ := s
  obtain ⟨hab, u, v⟩ := (roPart_join ha).assoc j
  exact ⟨roPart ha, hab, v, headsAt_get ps xs i p x h1 h2 ha sa, ha, hb, u, sa, s2⟩

theorem headsAt_snoc : ∀ (ps : List Nat) (xs : List Hd) (p : Nat) (x : Hd) (h : LH), Star [.pr (HeadsAt ps xs), .pr (HeadAt p x)] h → HeadsAt (ps ++ [p]) (xs ++ [x]) h
  | [], [], p, x, h, s => by
    obtain ⟨h1, h2, j, _, h3, h4, j2, s3, _⟩ := s
    refine ⟨h, fun _ => none, fun b => .inr (.inl ⟨rfl, rfl⟩), ?_, fun _ => none, fun _ => none, fun b => .inl ⟨rfl, rfl⟩, trivial, trivial⟩
    obtain ⟨m1, m2, c1, c2, st⟩ := s3
    exact ⟨m1, m2, c1, c2, (st.more j2).more j.comm⟩
  | p0 :: ps, x0 :: xs, p, x, h, s => by
    have s1 : Star ([.pr (HeadAt p0 x0), .pr (HeadsAt ps xs)] ++ [.pr (HeadAt p x)]) h := Star.open_.1 s
    obtain ⟨h1, h2, j, a, s2⟩ := s1
    exact ⟨h1, h2, j, a, h2, fun _ => none, fun b => .inr (.inl ⟨rfl, rfl⟩), headsAt_snoc ps xs p x h2 s2, trivial⟩
  | [], _ :: _, _, _, _, s => by obtain ⟨_, _, _, h, _⟩ := s; exact h.elim
  | _ :: _, [], _, _, _, s => by obtain ⟨_, _, _, h, _⟩ := s; exact h.elim

abbrev cnCells (s : Cn) (pm pd am : Nat) (hs : Value) (kp : Nat) : List Value :=
  [.int .i64 s.n, .int .u64 s.hd.height, .int .u64 s.hd.time, .map (some pm), .int .u64 s.locked, .int .u64 s.about, .bool s.hd.opn, .int .u64 s.nsend, .int .u64 s.hd.nrecv, .map (some pd), .map (some am), hs, .pointer (some ⟨kp, 0, none⟩)]

/-- The names of a chain's parts. -/
structure Lay where
  pm : Nat
  pd : Nat
  am : Nat
  hs : Value
  kp : Nat
  l : List UE
  ck : Nat
  ps : List Nat

abbrev chainChs (c : Nat) (s : Cn) (kn : Hd) (y : Lay) : List Ch :=
  [.pt c true (.cells ⟨cnCells s y.pm y.pd y.am y.hs y.kp⟩ 148 (0, 0)), .pt y.pm true (.map ⟨y.l.map uEnt⟩ y.ck), .pt y.pd true (.map ⟨pEs s.hd.packets⟩ (s.nsend - 1).toNat),
   .pt y.am true (.map ⟨aEs s.hd.answers⟩ s.hd.answers.length), .pr (SlV 111 1 y.hs (y.ps.map ptrV) y.ps.length), .pr (HeadsAt y.ps s.heads), .pr (HeadAt y.kp kn)]

abbrev chainL (c : Nat) (s : Cn) (kn : Hd) (y : Lay) (Γ : List Ch) : List Ch :=
  .pt c true (.cells ⟨cnCells s y.pm y.pd y.am y.hs y.kp⟩ 148 (0, 0)) :: .pt y.pm true (.map ⟨y.l.map uEnt⟩ y.ck) :: .pt y.pd true (.map ⟨pEs s.hd.packets⟩ (s.nsend - 1).toNat) ::
   .pt y.am true (.map ⟨aEs s.hd.answers⟩ s.hd.answers.length) :: .pr (SlV 111 1 y.hs (y.ps.map ptrV) y.ps.length) :: .pr (HeadsAt y.ps s.heads) :: .pr (HeadAt y.kp kn) :: Γ

/-- A chain of the program at a block. -/
def ChainAt (c : Nat) (s : Cn) (kn : Hd) : LH → Prop := fun h => ∃ y : Lay, PurseOK y.l y.ck s.has ∧ Star (chainChs c s kn y) h

theorem chain_open {c : Nat} {s : Cn} {kn : Hd} {Γ : List Ch} : ∀ h, Star (.pr (ChainAt c s kn) :: Γ) h → ∃ y : Lay, PurseOK y.l y.ck s.has ∧ Star (chainL c s kn y Γ) h := fun h st => by
  obtain ⟨y, st⟩ := Star.ex.1 st
  obtain ⟨ok, st⟩ := Star.pure.1 st
  exact ⟨y, ok, Star.open_.1 st⟩

theorem chain_shut {c : Nat} {s : Cn} {kn : Hd} {Γ : List Ch} (y : Lay) (ok : PurseOK y.l y.ck s.has) : Ent (chainL c s kn y Γ) (.pr (ChainAt c s kn) :: Γ) := .star fun h st =>
  Star.ex.2 ⟨y, Star.pure.2 ⟨ok, Star.open_.2 st⟩⟩

theorem chain_fold {c : Nat} {s : Cn} {kn : Hd} {Γ : List Ch} (y : Lay) (ok : PurseOK y.l y.ck s.has) : EntR (.pr (ChainAt c s kn) :: Γ) (chainL c s kn y Γ) := chain_shut y ok

/-- The names of a header's parts. -/
structure HLay where
  m1 : Nat
  m2 : Nat
  c1 : Nat
  c2 : Nat

abbrev headL (p : Nat) (x : Hd) (z : HLay) (Γ : List Ch) : List Ch :=
  .pt p false (.cells ⟨hdCells x z.m1 z.m2⟩ 150 (0, 0)) :: .pt z.m1 false (.map ⟨pEs x.packets⟩ z.c1) :: .pt z.m2 false (.map ⟨aEs x.answers⟩ z.c2) :: Γ

theorem head_open {p : Nat} {x : Hd} {Γ : List Ch} : ∀ h, Star (.pr (HeadAt p x) :: Γ) h → ∃ z : HLay, True ∧ Star (headL p x z Γ) h := fun h st => by
  obtain ⟨m1, st⟩ := Star.ex.1 st
  obtain ⟨m2, st⟩ := Star.ex.1 st
  obtain ⟨c1, st⟩ := Star.ex.1 st
  obtain ⟨c2, st⟩ := Star.ex.1 st
  exact ⟨⟨m1, m2, c1, c2⟩, trivial, Star.open_.1 st⟩

theorem head_fold {p : Nat} {x : Hd} {Γ : List Ch} (z : HLay) : EntR (.pr (HeadAt p x) :: Γ) (headL p x z Γ) := .star fun h st =>
  Star.ex.2 ⟨z.m1, Star.ex.2 ⟨z.m2, Star.ex.2 ⟨z.c1, Star.ex.2 ⟨z.c2, Star.open_.2 st⟩⟩⟩⟩

/-- A chain opened, and its known header too. -/
abbrev chainHL (c : Nat) (s : Cn) (kn : Hd) (y : Lay) (z : HLay) (Γ : List Ch) : List Ch := chainL c s kn y (headL y.kp kn z Γ)

theorem _root_.Go.Lx.Star.front {Γ Γ' : List Ch} {c : Ch} {h : LH} (s : Star Γ h) (i : Nat) [e : Nth Γ i c Γ'] : Star (c :: Γ') h := s.perm e.perm
theorem front_ent {Γ Γ' : List Ch} {c : Ch} (i : Nat) [e : Nth Γ i c Γ'] : Ent Γ (c :: Γ') := .perm e.perm
theorem back_ent {Γ Γ' : List Ch} {c : Ch} (i : Nat) [e : Nth Γ i c Γ'] : Ent (c :: Γ') Γ := .perm e.perm.symm

theorem chainH_open {c : Nat} {s : Cn} {kn : Hd} {Γ : List Ch} : ∀ h, Star (.pr (ChainAt c s kn) :: Γ) h → ∃ z : Lay × HLay, PurseOK z.1.l z.1.ck s.has ∧ Star (chainHL c s kn z.1 z.2 Γ) h := fun h st => by
  obtain ⟨y, ok, st⟩ := chain_open h st
  have st : Star (.pr (HeadAt y.kp kn) :: _) h := st.perm (Nth.perm (Γ := chainL c s kn y Γ) (i := 6))
  obtain ⟨z, _, st⟩ := head_open h (Star.dupP (pers_headAt y.kp kn) st)
  exact ⟨(y, z), ok, ((((((st.front 3).front 9).front 9).front 9).front 9).front 9).front 9⟩

theorem chainH_fold {c : Nat} {s : Cn} {kn : Hd} {Γ : List Ch} (y : Lay) (z : HLay) (ok : PurseOK y.l y.ck s.has) : EntR (.pr (ChainAt c s kn) :: Γ) (chainHL c s kn y z Γ) :=
  Ent.trans (chain_shut y ok) (Ent.cons (Ent.drop (Ent.drop (Ent.drop (Ent.refl _)))))

end Go.Br

namespace Go.Br
open Go Go.Lx

def setU (u c v : Int) : List UE → List UE
  | [] => []
  | x :: l => if u = x.1 ∧ c = x.2.1 then (x.1, x.2.1, v, x.2.2.2) :: l else x :: setU u c v l

def delU (u c : Int) : List UE → List UE
  | [] => []
  | x :: l => if u = x.1 ∧ c = x.2.1 then l else x :: delU u c l

def valU (l : List UE) (u c : Int) : Option Int := match l with
  | [] => none
  | x :: l => if u = x.1 ∧ c = x.2.1 then some x.2.2.1 else valU l u c

theorem findU_val (u c : Int) : ∀ (l : List UE) (i : Nat), (findU l u c i).map (·.2) = (valU l u c).map fun v => (.int .u64 v : Value) := by
  intro l
  induction l with
  | nil => intro i; rfl
  | cons x l ih =>
    intro i
    simp only [findU, valU]
    split
    · rfl
    · exact ih (i + 1)

theorem findU_isSome (u c : Int) (l : List UE) (i : Nat) : (findU l u c i).isSome = (valU l u c).isSome := by
  have := congrArg Option.isSome (findU_val u c l i)
  simpa using this

theorem findU_at (u c : Int) : ∀ (l : List UE) (i j : Nat) (v : Value), findU l u c i = some (j, v) → ∃ m x, j = i + m ∧ l[m]? = some x ∧ u = x.1 ∧ c = x.2.1 := by
  intro l
  induction l with
  | nil => intro i j v h; cases h
  | cons x l ih =>
    intro i j v h
    simp only [findU] at h
    split at h
    · rename_i hx; cases h; exact ⟨0, x, rfl, rfl, hx.1, hx.2⟩
    · obtain ⟨m, y, h1, h2, h3, h4⟩ := ih _ _ _ h
      exact ⟨m + 1, y, by omega, by simpa using h2, h3, h4⟩

theorem findU_same (u c : Int) (l : List UE) : ∀ i w, findU l u c 0 = some (i, w) → ((l.map uEnt)[i]?).map (·.key) = some (purse u c) := by
  intro i w h
  obtain ⟨m, x, h1, h2, h3, h4⟩ := findU_at u c l 0 i w h
  have : i = m := by omega
  subst this
  simp [h2, uEnt, h3, h4]

theorem set_map (u c v : Int) : ∀ (l : List UE) (i j : Nat) (w : Value), findU l u c i = some (j, w) → (l.map uEnt).modify (j - i) (fun e => { e with val := .int .u64 v }) = (setU u c v l).map uEnt := by
  intro l
  induction l with
  | nil => intro i j w h; cases h
  | cons x l ih =>
    intro i j w h
    simp only [findU] at h
    simp only [setU]
    split at h
    · rename_i hx
      cases h
      rw [if_pos hx, Nat.sub_self]
      simp [uEnt]
    · rename_i hx
      rw [if_neg hx]
      obtain ⟨m, _, h1, _⟩ := findU_at _ _ _ _ _ _ h
      have e : j - i = (j - (i + 1)) + 1 := by omega
      rw [e, List.map_cons, List.map_cons, List.modify_succ_cons, ih _ _ _ h]

theorem del_map (u c : Int) : ∀ (l : List UE) (i j : Nat) (w : Value), findU l u c i = some (j, w) → (l.map uEnt).eraseIdx (j - i) = (delU u c l).map uEnt := by
  intro l
  induction l with
  | nil => intro i j w h; cases h
  | cons x l ih =>
    intro i j w h
    simp only [findU] at h
    simp only [delU]
    split at h
    · rename_i hx
      cases h
      rw [if_pos hx, Nat.sub_self]
      simp
    · rename_i hx
      rw [if_neg hx]
      obtain ⟨m, _, h1, _⟩ := findU_at _ _ _ _ _ _ h
      have e : j - i = (j - (i + 1)) + 1 := by omega
      rw [e, List.map_cons, List.map_cons, List.eraseIdx_cons_succ, ih _ _ _ h]

theorem valU_set (u c v : Int) : ∀ (l : List UE) (u' c' : Int), valU (setU u c v l) u' c' = if u' = u ∧ c' = c then (valU l u c).map (fun _ => v) else valU l u' c' := by
  intro l
  induction l with
  | nil => intro u' c'; simp [setU, valU]
  | cons x l ih =>
    intro u' c'
    simp only [setU]
    by_cases hx : u = x.1 ∧ c = x.2.1
    · obtain ⟨rfl, rfl⟩ := hx
      simp only [and_self, if_true, valU]
      by_cases h : u' = x.1 ∧ c' = x.2.1
      · simp [h]
      · simp [h]
    · rw [if_neg hx]
      simp only [valU]
      by_cases h : u' = x.1 ∧ c' = x.2.1
      · simp only [h, and_self, if_true]
        have : ¬ (x.1 = u ∧ x.2.1 = c) := fun e => hx ⟨e.1.symm, e.2.symm⟩
        simp [this]
      · rw [if_neg h, if_neg h, if_neg hx]
        exact ih u' c'

theorem valU_none_of (u c : Int) : ∀ (l : List UE), (∀ x ∈ l, ¬ (u = x.1 ∧ c = x.2.1)) → valU l u c = none := by
  intro l
  induction l with
  | nil => intro _; rfl
  | cons x l ih =>
    intro h
    simp only [valU, if_neg (h x (List.mem_cons_self ..))]
    exact ih fun y hy => h y (List.mem_cons_of_mem _ hy)

theorem valU_del (u c : Int) : ∀ (l : List UE), l.Pairwise (fun x y => ¬ (x.1 = y.1 ∧ x.2.1 = y.2.1)) → ∀ (u' c' : Int), valU (delU u c l) u' c' = if u' = u ∧ c' = c then none else valU l u' c' := by
  intro l
  induction l with
  | nil => intro _ u' c'; simp [delU, valU]
  | cons x l ih =>
    intro hp u' c'
    obtain ⟨h1, h2⟩ := List.pairwise_cons.1 hp
    simp only [delU]
    by_cases hx : u = x.1 ∧ c = x.2.1
    · obtain ⟨rfl, rfl⟩ := hx
      simp only [and_self, if_true, valU]
      by_cases h : u' = x.1 ∧ c' = x.2.1
      · obtain ⟨rfl, rfl⟩ := h
        simp only [and_self, if_true]
        exact valU_none_of _ _ _ fun y hy => h1 y hy
      · simp [h]
    · rw [if_neg hx]
      simp only [valU]
      by_cases h : u' = x.1 ∧ c' = x.2.1
      · simp only [h, and_self, if_true]
        have : ¬ (x.1 = u ∧ x.2.1 = c) := fun e => hx ⟨e.1.symm, e.2.symm⟩
        simp [this]
      · rw [if_neg h, if_neg h]
        exact ih h2 u' c'

theorem set_keys {R : UE → UE → Prop} (hR : ∀ x y : UE, ∀ v w, R x y → R (x.1, x.2.1, v, x.2.2.2) y ∧ R x (y.1, y.2.1, w, y.2.2.2)) (u c v : Int) : ∀ (l : List UE), l.Pairwise R → (setU u c v l).Pairwise R := by
  have hm : ∀ (l : List UE) (x : UE), (∀ y ∈ l, R x y) → ∀ y ∈ setU u c v l, R x y := by
    intro l
    induction l with
    | nil => intro x _ y hy; cases hy
    | cons z l ih =>
      intro x h y hy
      simp only [setU] at hy
      split at hy
      · rcases List.mem_cons.1 hy with e | e
        · subst e; exact (hR x z v v (h z (List.mem_cons_self ..))).2
        · exact h y (List.mem_cons_of_mem _ e)
      · rcases List.mem_cons.1 hy with e | e
        · subst e; exact h y (List.mem_cons_self ..)
        · exact ih x (fun w hw => h w (List.mem_cons_of_mem _ hw)) y e
  intro l
  induction l with
  | nil => intro _; exact List.Pairwise.nil
  | cons x l ih =>
    intro hp
    obtain ⟨h1, h2⟩ := List.pairwise_cons.1 hp
    simp only [setU]
    split
    · exact List.pairwise_cons.2 ⟨fun y hy => (hR x y v v (h1 y hy)).1, h2⟩
    · exact List.pairwise_cons.2 ⟨hm l x h1, ih h2⟩

theorem del_sub (u c : Int) : ∀ (l : List UE), (delU u c l).Sublist l := by
  intro l
  induction l with
  | nil => exact List.Sublist.refl _
  | cons x l ih =>
    simp only [delU]
    split
    · exact List.sublist_cons_self ..
    · exact ih.cons_cons x

theorem set_born (u c v : Int) : ∀ (l : List UE), ∀ y ∈ setU u c v l, ∃ x ∈ l, y.2.2.2 = x.2.2.2 := by
  intro l
  induction l with
  | nil => intro y hy; cases hy
  | cons x l ih =>
    intro y hy
    simp only [setU] at hy
    split at hy
    · rcases List.mem_cons.1 hy with e | e
      · subst e; exact ⟨x, List.mem_cons_self .., rfl⟩
      · exact ⟨y, List.mem_cons_of_mem _ e, rfl⟩
    · rcases List.mem_cons.1 hy with e | e
      · subst e; exact ⟨y, List.mem_cons_self .., rfl⟩
      · obtain ⟨z, hz, e2⟩ := ih y e; exact ⟨z, List.mem_cons_of_mem _ hz, e2⟩

/-- The accounts, said by 'valU'. -/
theorem purse_val {l : List UE} {ck : Nat} {has : Int → Int → Int} (ok : PurseOK l ck has) (u c : Int) : (valU l u c).getD 0 = has u c := by
  have := ok.val u c
  rw [findU_val] at this
  cases h : valU l u c with
  | none => rw [h] at this; simpa using this.symm
  | some v => rw [h] at this; simpa using this.symm

theorem purse_of {l : List UE} {ck : Nat} {has : Int → Int → Int} (h1 : ∀ u c, (valU l u c).getD 0 = has u c) (h2 : l.Pairwise (fun x y => ¬ (x.1 = y.1 ∧ x.2.1 = y.2.1))) (h3 : l.Pairwise (fun x y => x.2.2.2 ≠ y.2.2.2)) (h4 : ∀ x ∈ l, x.2.2.2 < ck) : PurseOK l ck has :=
  ⟨fun u c => by
    rw [findU_val, ← h1 u c]
    cases valU l u c <;> rfl, h2, h3, h4⟩

/-- 'm[k]' as a place: the entries, and that they say the same. -/
theorem purse_ent {l : List UE} {ck : Nat} {has : Int → Int → Int} (ok : PurseOK l ck has) (u c : Int) :
    ∃ l', (entE (l.map uEnt) ck (purse u c) (.int .u64 0) (findU l u c 0)).1 = l'.map uEnt ∧ PurseOK l' (entE (l.map uEnt) ck (purse u c) (.int .u64 0) (findU l u c 0)).2.1 has ∧
      (∀ x : Int, ∃ i l'', (l'.map uEnt).findIdx? (fun e => (e.born : Int) == ((entE (l.map uEnt) ck (purse u c) (.int .u64 0) (findU l u c 0)).2.2.2 : Int)) = some i ∧
        (l'.map uEnt).modify i (fun e => { e with val := .int .u64 x }) = l''.map uEnt ∧ PurseOK l'' (entE (l.map uEnt) ck (purse u c) (.int .u64 0) (findU l u c 0)).2.1 (setHas has u c x)) := by
  have main : ∀ (l : List UE) (ck : Nat), PurseOK l ck has → ∀ i w, findU l u c 0 = some (i, w) → ∀ x : Int, ∃ l'', (l.map uEnt).findIdx? (fun e => (e.born : Int) == ((((l.map uEnt)[i]?).map (·.born)).getD 0 : Nat)) = some i ∧
        (l.map uEnt).modify i (fun e => { e with val := .int .u64 x }) = l''.map uEnt ∧ PurseOK l'' ck (setHas has u c x) := by
    intro l ck ok i w hf x
    obtain ⟨m, y, h1, h2, h3, h4⟩ := findU_at u c l 0 i w hf
    have him : i = m := by omega
    subst him
    have hset := set_map u c x l 0 i w hf
    refine ⟨setU u c x l, ?_, by simpa using hset, purse_of ?_ ?_ ?_ ?_⟩
    · have hi : i < l.length := by
        rcases Nat.lt_or_ge i l.length with h | h
        · exact h
        · rw [List.getElem?_eq_none h] at h2; cases h2
      rw [List.findIdx?_eq_some_iff_getElem]
      refine ⟨by simpa using hi, ?_, ?_⟩
      · have : l[i] = y := by rw [List.getElem?_eq_getElem hi] at h2; exact Option.some.inj h2
        simp [h2, uEnt, this]
      · intro j hj
        have hne := List.pairwise_iff_getElem.1 ok.born j i (by omega) hi hj
        have : l[i] = y := by rw [List.getElem?_eq_getElem hi] at h2; exact Option.some.inj h2
        simp only [List.getElem_map, uEnt, List.getElem?_map, h2, Option.map_some, Option.getD_some, beq_iff_eq]
        rw [this] at hne
        intro e
        exact hne (by exact_mod_cast e)
    · intro u' c'
      rw [valU_set]
      unfold setHas
      by_cases h : u' = u ∧ c' = c
      · rw [if_pos h, if_pos h]
        have : (valU l u c).isSome = true := by rw [← findU_isSome u c l 0, hf]; rfl
        obtain ⟨v, hv⟩ := Option.isSome_iff_exists.1 this
        rw [hv]; rfl
      · rw [if_neg h, if_neg h]; exact purse_val ok u' c'
    · exact set_keys (fun x y v w h => ⟨h, h⟩) u c x l ok.keys
    · exact set_keys (fun x y v w h => ⟨h, h⟩) u c x l ok.born
    · intro y hy
      obtain ⟨z, hz, e⟩ := set_born u c x l y hy
      rw [e]; exact ok.lt z hz
  cases hf : findU l u c 0 with
  | some r =>
    obtain ⟨i, w⟩ := r
    refine ⟨l, rfl, ok, fun x => ?_⟩
    obtain ⟨l'', h1, h2, h3⟩ := main l ck ok i w hf x
    exact ⟨i, l'', h1, h2, h3⟩
  | none =>
    have hnone : valU l u c = none := by
      have := findU_isSome u c l 0
      rw [hf] at this
      cases h : valU l u c with
      | none => rfl
      | some v => rw [h] at this; cases this
    have hno : ∀ x ∈ l, ¬ (u = x.1 ∧ c = x.2.1) := by
      intro x hx e
      have : ∀ (l : List UE), x ∈ l → valU l u c ≠ none := by
        intro l
        induction l with
        | nil => intro h; cases h
        | cons y l ih =>
          intro h
          simp only [valU]
          split
          · simp
          · rename_i hy
            rcases List.mem_cons.1 h with e2 | e2
            · subst e2; exact absurd e hy
            · exact ih e2
      exact this l hx hnone
    have hval : ∀ u' c', valU (l ++ [(u, c, 0, ck)]) u' c' = (valU l u' c').orElse fun _ => if u' = u ∧ c' = c then some 0 else none := by
      intro u' c'
      clear hf hnone hno ok
      induction l with
      | nil => simp only [List.nil_append, valU]; rfl
      | cons y l ih =>
        simp only [List.cons_append, valU]
        split
        · rfl
        · exact ih
    have ok' : PurseOK (l ++ [(u, c, 0, ck)]) (ck + 1) has := by
      refine purse_of ?_ ?_ ?_ ?_
      · intro u' c'
        rw [hval, ← purse_val ok u' c']
        cases h : valU l u' c' with
        | some v => rfl
        | none => simp only [Option.orElse_none]; split <;> rfl
      · rw [List.pairwise_append]
        refine ⟨ok.keys, List.pairwise_singleton .., fun x hx y hy => ?_⟩
        rw [List.mem_singleton.1 hy]
        exact fun e => hno x hx ⟨e.1.symm, e.2.symm⟩
      · rw [List.pairwise_append]
        refine ⟨ok.born, List.pairwise_singleton .., fun x hx y hy => ?_⟩
        rw [List.mem_singleton.1 hy]
        exact fun e => absurd (ok.lt x hx) (by simp only [] at e; omega)
      · intro x hx
        rcases List.mem_append.1 hx with h | h
        · exact Nat.lt_succ_of_lt (ok.lt x h)
        · rw [List.mem_singleton.1 h]; exact Nat.lt_succ_self _
    have hmap : l.map uEnt ++ [⟨purse u c, .int .u64 0, ck⟩] = (l ++ [(u, c, 0, ck)]).map uEnt := by simp [uEnt]
    have hfind : ∀ (i : Nat), findU (l ++ [(u, c, 0, ck)]) u c i = some (i + l.length, .int .u64 0) := by
      clear hf hnone ok ok' hval hmap
      induction l with
      | nil => intro i; simp [findU]
      | cons y l ih =>
        intro i
        simp only [List.cons_append, findU, if_neg (hno y (List.mem_cons_self ..))]
        rw [ih (fun x hx => hno x (List.mem_cons_of_mem _ hx))]
        simp; omega
    refine ⟨l ++ [(u, c, 0, ck)], hmap, ok', fun x => ?_⟩
    obtain ⟨l'', h1, h2, h3⟩ := main _ _ ok' _ _ (by simpa using hfind 0) x
    refine ⟨l.length, l'', ?_, h2, h3⟩
    simpa [entE, uEnt] using h1

/-- Whether there is an entry or not: what accounts have stands where nothing is struck that is not nought. -/
theorem purse_del {l : List UE} {ck : Nat} {has : Int → Int → Int} (ok : PurseOK l ck has) (u c : Int) (h0 : has u c = 0) :
    ∃ l', delE (l.map uEnt) (findU l u c 0) = l'.map uEnt ∧ PurseOK l' ck has := by
  cases hf : findU l u c 0 with
  | none => exact ⟨l, rfl, ok⟩
  | some r =>
    obtain ⟨i, w⟩ := r
    refine ⟨delU u c l, by simpa [delE] using del_map u c l 0 i w hf, purse_of ?_ (ok.keys.sublist (del_sub u c l)) (ok.born.sublist (del_sub u c l)) fun x hx => ok.lt x ((del_sub u c l).subset hx)⟩
    intro u' c'
    rw [valU_del u c l ok.keys]
    split
    · rename_i h; rw [h.1, h.2, h0]; rfl
    · exact purse_val ok u' c'

end Go.Br
