/-
  Lemmas towards the law, proved without conditions of their own: THE REFERENCE OF THE STATEMENTS: how its parts lie in memory; find, due; KEEP: small lemmas of the law group that are needed here too; KEEP: what holds of two chains and of what was sent between them. Plain law; KEEP: what holds of two chains, and stays so by each step. Plain law; KEEP: each step keeps what holds of the two chains. Plain law; KEEP: packets that are answered, or come back; all steps. Plain law.
-/
import Derived.Test.YtedaknlacigbhaaPk19
namespace Go.Br
open Go Go.Lx Go.Proofs
open Go.Lx renaming rg_move → zA, rg_int → zB, rg_nilCheck → zC, rg_fieldAddr0 → zD, rg_fieldAddr → zE, rg_load → zF, rg_assign → zG, rg_loadAgg → zH, rg_extract → zI, rg_not → zJ, rg_pick → zK, rg_off → zL, rg_offU → zM, rg_store → zN, rg_storeAgg → zO, rg_convInt → zP, rg_done → zQ, ex_seq → zR, rg_start_s → zS, rg_start_d → zT, ex_cond_true → zU, ex_cond_false → zV, rg_alloc → zW, rg_boxAgg → zX, rg_build → zY, rg_lenSl → zZ, rg_lenMap → yA, ex_skip → yB, ex_block → yC, ex_inBlock → yD, ex_exit → yE, rg_caseG → yZ
set_option maxRecDepth 100000

/-- A slice from the beginning of its array, owned or to be read alone. -/
def SlP (p : Bool) (el m : Nat) (s : Value) (xs : List Value) (len : Nat) : LH → Prop := fun h =>
  (s = .slice none 0 0 ∧ xs = [] ∧ len = 0) ∨
  ∃ bl cap slack, s = .slice (some ⟨bl, 0, none⟩) len cap ∧ len ≤ cap ∧ xs.length = len * m ∧ slack.length = (cap - len) * m ∧ h bl = some (p, .cells ⟨xs ++ slack⟩ el (0, 0))

theorem SlP.one {p : Bool} {el m : Nat} {s : Value} {xs : List Value} {len : Nat} {h : LH} (v : SlP p el m s xs len h) : oneC s = true := by
  rcases v with ⟨h1, _⟩ | ⟨_, _, _, h1, _⟩ <;> (subst h1; rfl)

theorem star_slp {p : Bool} {el m : Nat} {s : Value} {xs : List Value} {len : Nat} {Γ : List Ch} {h : LH} :
    Star (.pr (SlP p el m s xs len) :: Γ) h ↔ (s = .slice none 0 0 ∧ xs = [] ∧ len = 0 ∧ Star (.pr (fun _ => True) :: Γ) h) ∨
      ∃ bl cap slack, s = .slice (some ⟨bl, 0, none⟩) len cap ∧ len ≤ cap ∧ xs.length = len * m ∧ slack.length = (cap - len) * m ∧ Star (.pt bl p (.cells ⟨xs ++ slack⟩ el (0, 0)) :: Γ) h := by
  constructor
  · rintro ⟨h1, h2, j, v, st⟩
    rcases v with ⟨a, b, c⟩ | ⟨bl, cap, slack, a, b, c, d, e⟩
    · exact .inl ⟨a, b, c, h1, h2, j, trivial, st⟩
    · exact .inr ⟨bl, cap, slack, a, b, c, d, h1, h2, j, e, st⟩
  · rintro (⟨a, b, c, h1, h2, j, _, st⟩ | ⟨bl, cap, slack, a, b, c, d, h1, h2, j, e, st⟩)
    · exact ⟨h1, h2, j, .inl ⟨a, b, c⟩, st⟩
    · exact ⟨h1, h2, j, .inr ⟨bl, cap, slack, a, b, c, d, e⟩, st⟩

theorem slp_none {Γ : List Ch} {h : LH} (st : Star Γ h) : Star (.pr (fun _ => True) :: Γ) h := ⟨fun _ => none, h, fun _ => .inl ⟨rfl, rfl⟩, trivial, st⟩

theorem ex_slp {P : Program} {X : Tgt} {b : Base} {n : Nat} {E : Env} {k : List Item} {cs : List Frame} {Γ : List Ch} {p : Bool} {el m : Nat} {s : Value} {xs : List Value} {len : Nat}
    (e0 : s = .slice none 0 0 → xs = [] → len = 0 → Ex P X b n E k cs Γ)
    (e1 : ∀ bl cap slack, s = .slice (some ⟨bl, 0, none⟩) len cap → (len ≤ cap ∧ xs.length = len * m ∧ slack.length = (cap - len) * m) → Ex P X b n E k cs (.pt bl p (.cells ⟨xs ++ slack⟩ el (0, 0)) :: Γ)) : Ex P X b n E k cs (.pr (SlP p el m s xs len) :: Γ) := fun tmps h t st => by
  rcases star_slp.1 st with ⟨h1, h2, h3, st'⟩ | ⟨bl, cap, slack, a, b, c, d, st'⟩
  · exact Ex.drop (c := .pr (fun _ => True)) (e0 h1 h2 h3) tmps h t st'
  · exact e1 bl cap slack a ⟨b, c, d⟩ tmps h t st'

theorem slp_fold {p : Bool} {el m : Nat} {xs : List Value} {len : Nat} {Γ : List Ch} (b cap : Nat) (slack : List Value) (h : len ≤ cap ∧ xs.length = len * m ∧ slack.length = (cap - len) * m) : EntR (.pr (SlP p el m (.slice (some ⟨b, 0, none⟩) len cap) xs len) :: Γ) (.pt b p (.cells ⟨xs ++ slack⟩ el (0, 0)) :: Γ) :=
  .star fun _ st => star_slp.2 (.inr ⟨b, cap, slack, rfl, h.1, h.2.1, h.2.2, st⟩)

/-- What is owned may be kept to be read alone. -/
theorem slp_ro {el m : Nat} {s : Value} {xs : List Value} {len : Nat} {Γ : List Ch} : Ent (.pr (SlV el m s xs len) :: Γ) (.pr (SlP false el m s xs len) :: Γ) := fun h st => by
  rcases (star_slp (p := true)).1 st with ⟨h1, h2, h3, st'⟩ | ⟨bl, cap, slack, a, b, c, d, st'⟩
  · exact ⟨h, .refl h, star_slp.2 (.inl ⟨h1, h2, h3, st'⟩)⟩
  · obtain ⟨h', l, s'⟩ := st'.ro
    exact ⟨h', l, star_slp.2 (.inr ⟨bl, cap, slack, a, b, c, d, s'⟩)⟩

/-! cells one after another -/

theorem flat_len {α : Type} {f : α → List Value} {m : Nat} (hf : ∀ a, (f a).length = m) (l : List α) : (l.flatMap f).length = l.length * m := by
  induction l with
  | nil => simp
  | cons a l ih => simp only [List.flatMap_cons, List.length_append, hf, ih, List.length_cons, Nat.add_mul]; omega

theorem sliceL_flat {α : Type} {f : α → List Value} {m : Nat} (hf : ∀ a, (f a).length = m) (l : List α) (i : Nat) (a : α) (h : l[i]? = some a) (slack : List Value) : SliceL (l.flatMap f ++ slack) (i * m) m (f a) := by
  refine ⟨(l.take i).flatMap f, (l.drop (i + 1)).flatMap f ++ slack, ?_, ?_, hf a⟩
  · have hi : i < l.length := by
      rcases Nat.lt_or_ge i l.length with h' | h'
      · exact h'
      · rw [List.getElem?_eq_none h'] at h; cases h
    have ha : l[i] = a := by rw [List.getElem?_eq_getElem hi] at h; exact Option.some.inj h
    have e : l = l.take i ++ (a :: l.drop (i + 1)) := by rw [← ha, ← List.drop_eq_getElem_cons hi, List.take_append_drop]
    conv => lhs; rw [e]
    simp [List.flatMap_append]
  · rw [flat_len hf, List.length_take, Nat.min_eq_left]
    rcases Nat.lt_or_ge i l.length with h' | h'
    · omega
    · rw [List.getElem?_eq_none h'] at h; cases h

abbrev anC (a : Ans) : List Value := [.int .u64 a.seq, .bool a.good]
abbrev pkFl (l : List Pk) : List Value := l.flatMap pkC
abbrev anFl (l : List Ans) : List Value := l.flatMap anC
theorem pkC_len : ∀ p, (pkC p).length = 7 := fun _ => rfl
theorem anC_len : ∀ a, (anC a).length = 2 := fun _ => rfl

theorem find_get {q : Int} : ∀ {l : List Pk} {i : Nat} {j : Nat} {p : Pk}, find l q i = some (j, p) → i ≤ j ∧ l[j - i]? = some p ∧ j - i < l.length ∧ p.seq = q := by
  intro l
  induction l with
  | nil => intro i j p h; cases h
  | cons x l ih =>
    intro i j p h
    simp only [find] at h
    split at h
    · cases h; exact ⟨Nat.le_refl _, by simp, by simp, by assumption⟩
    · obtain ⟨a, b, c, d⟩ := ih h
      have e : j - i = (j - (i + 1)) + 1 := by omega
      exact ⟨by omega, by rw [e, List.getElem?_cons_succ]; exact b, by rw [e]; simp; omega, d⟩

theorem rwrap {x : Int} (h : -9223372036854775808 ≤ x ∧ x < 9223372036854775808) : IntKind.wrap .i64 x = x := wIn h.1 h.2

end Go.Br

namespace Go.Lx
open Go
section
variable {P : Program} {X : Tgt} {b : Base} {n : Nat} {dr : Bool} {ops : Array Oper} {lo : Nat} {ex : List Nat} {fl : Floats} {E : Env} {rem : List Oper} {k : List Item} {cs : List Frame} {Γ Γ' : List Ch}
variable {d : Nat} {T : TypeId} {pos : String} {af : Array Edge} {gd : Option (Nat × Bool)}

/-- A call whose contract says of the heap what entails Γ'. -/
theorem rg_callE {f : FuncId} {args : List Operand} {at' : Array TypeId} {vs : List Value} {v0 : Value} [hb : HasBody P f] (ha : vals E args = some vs) (hc : CallsX P f vs.toArray Γ (fun v Δ => v = v0 ∧ Ent Δ Γ'))
    (e : (dr = false ∨ Reval ops ex lo fl Γ') ∧ Rg P X b n dr ops (lo + 1) ex fl ((d, v0) :: E) rem k cs Γ')
    (hdn : d < n := by decide) (hex : NotYet ex lo := trivial) (hg : GuardOK ops ⟨some d, .call ⟨.value (.func f), ⟨args⟩, at'⟩, T, pos, af, gd⟩ E := by first | exact trivial | exact ⟨_, rfl, rfl⟩)
    (hl : dr = false ∨ chkLast ops lo ex = true := by first | exact .inl rfl | exact .inr (by decide +kernel)) :
    Rg P X b n dr ops lo ex fl E (⟨some d, .call ⟨.value (.func f), ⟨args⟩, at'⟩, T, pos, af, gd⟩ :: rem) k cs Γ :=
  rg_loud (φ := fun v Δ => v = v0 ∧ Δ = Γ') (fun d' e => by cases e; exact hdn) hex hg hl (fun b R ops i l k cs h ho hw hρ st e' => does_call ha (hc X) b R ops i l k cs h ho hw hρ st fun v Δ h' ⟨hv, hE⟩ s' => by
    obtain ⟨h'', le, s''⟩ := hE h' s'
    exact (e' v Γ' h'' ⟨hv, rfl⟩ s'').mono le) (by rintro v Δ ⟨rfl, rfl⟩; exact e)
end
end Go.Lx
namespace Go.Br
open Go Go.Lx Go.Proofs
set_option maxRecDepth 100000

abbrev stC (x : Stp) : List Value := [.int .i64 x.kind, .int .u64 x.n, .int .u64 x.p.seq, .int .i64 x.p.frm, .int .i64 x.p.to, .int .i64 x.p.coin, .int .u64 x.p.amount, .int .u64 x.p.height, .int .u64 x.p.time]

theorem pk_one {l : List Pk} : ∀ v ∈ pkFl l, oneC v = true := fun v hv => by
  obtain ⟨p, _, h⟩ := List.mem_flatMap.1 hv
  simp only [pkC, List.mem_cons, List.not_mem_nil, or_false] at h
  rcases h with rfl | rfl | rfl | rfl | rfl | rfl | rfl <;> rfl

theorem isUser_eq (u : Int) : isUser u = false ↔ (u < 0 ∨ 2 < u) := by
  simp only [isUser, Bool.and_eq_false_iff, decide_eq_false_iff_not]; omega

theorem len_snoc {α : Type} (l : List α) (q : α) : (l ++ [q]).length = l.length + 1 := by simp

theorem slp_none' {p : Bool} {el m : Nat} {Γ : List Ch} : Ent Γ (.pr (SlP p el m (.slice none 0 0) [] 0) :: Γ) := .star fun h st => star_slp.2 (.inl ⟨rfl, rfl, rfl, slp_none st⟩)

theorem sliceL_flatK {α : Type} {f : α → List Value} {m : Nat} (hf : ∀ a, (f a).length = m) (l : List α) (i : Nat) (hi : i < l.length) (slack : List Value) : SliceL (l.flatMap f ++ slack) (i * m) m (f l[i]) := sliceL_flat hf l i _ (List.getElem?_eq_getElem hi) slack

theorem slp_shape {p : Bool} {el m : Nat} {s : Value} {xs : List Value} {len : Nat} {h : LH} (v : SlP p el m s xs len h) : ∃ a cap, s = .slice a len cap := by
  rcases v with ⟨h1, _, h3⟩ | ⟨bl, cap, _, h1, _⟩
  · exact ⟨none, 0, by rw [h1, h3]⟩
  · exact ⟨_, cap, h1⟩

theorem slp_shapeO {p : Bool} {el m : Nat} {s : Value} {xs : List Value} {len : Nat} {Γ : List Ch} : ∀ h, Star (.pr (SlP p el m s xs len) :: Γ) h → ∃ w : Option Addr × Nat, s = .slice w.1 len w.2 ∧ Star (.pr (SlP p el m s xs len) :: Γ) h := fun h st => by
  obtain ⟨h1, h2, j, v1, st'⟩ := id st
  obtain ⟨a1, k1, e1⟩ := slp_shape v1
  exact ⟨(a1, k1), e1, st⟩

end Go.Br

namespace Go.Br
open Go

/-- What was sent: the packet as it was given; what its receiver has answered (0: not yet; 1: credited; 2: not); whether it is pending. -/
structure Rec where
  p : Pk
  ans : Int
  pend : Bool

def pendL : List Rec → Nat → List Pk
  | [], _ => []
  | x :: r, i => if x.pend = true then { x.p with seq := (i : Int) + 1 } :: pendL r (i + 1) else pendL r (i + 1)

def updR (f : Rec → Rec) : List Rec → Nat → List Rec
  | [], _ => []
  | x :: r, 0 => f x :: r
  | x :: r, n + 1 => x :: updR f r n

def wt (X : Int) (x : Rec) : Int := if x.p.coin = X ∧ x.pend = true ∧ x.ans ≠ 1 then x.p.amount else 0
def under (X : Int) : List Rec → Int
  | [] => 0
  | x :: r => wt X x + under X r

theorem updR_len (f : Rec → Rec) : ∀ (r : List Rec) (j : Nat), (updR f r j).length = r.length
  | [], _ => rfl
  | _ :: _, 0 => rfl
  | _ :: r, j + 1 => by simp [updR, updR_len f r j]

theorem updR_get (f : Rec → Rec) : ∀ (r : List Rec) (j i : Nat), (updR f r j)[i]? = if i = j then (r[i]?).map f else r[i]?
  | [], _, _ => by simp [updR]
  | _ :: _, 0, 0 => by simp [updR]
  | _ :: _, 0, i + 1 => by simp [updR]
  | _ :: _, j + 1, 0 => by simp [updR]
  | _ :: r, j + 1, i + 1 => by simp [updR, updR_get f r j i]

theorem under_upd (X : Int) (f : Rec → Rec) : ∀ (r : List Rec) (j : Nat) (x : Rec), r[j]? = some x → under X (updR f r j) = under X r - wt X x + wt X (f x)
  | [], _, _, h => by simp at h
  | y :: r, 0, x, h => by simp at h; subst h; simp only [updR, under]; omega
  | y :: r, j + 1, x, h => by
    have := under_upd X f r j x (by simpa using h)
    simp only [updR, under]; omega

theorem under_snoc (X : Int) (x : Rec) : ∀ r, under X (r ++ [x]) = under X r + wt X x
  | [] => by simp [under]
  | y :: r => by simp only [List.cons_append, under, under_snoc X x r]; omega

theorem under_nonneg (X : Int) : ∀ r : List Rec, (∀ x ∈ r, 0 ≤ x.p.amount) → 0 ≤ under X r
  | [], _ => by simp [under]
  | x :: r, h => by
    have h1 := under_nonneg X r fun y hy => h y (List.mem_cons_of_mem _ hy)
    have h2 := h x (List.mem_cons_self ..)
    simp only [under, wt]; split <;> omega

theorem pendL_snoc (x : Rec) : ∀ (r : List Rec) (i : Nat), pendL (r ++ [x]) i = pendL r i ++ (if x.pend = true then [{ x.p with seq := (i + r.length : Nat) + 1 }] else [])
  | [], i => by simp [pendL]
  | y :: r, i => by
    simp only [List.cons_append, pendL, pendL_snoc x r (i + 1), List.length_cons]
    rw [show i + 1 + r.length = i + (r.length + 1) by omega]
    split <;> simp

theorem pendL_mem {q : Pk} : ∀ {r : List Rec} {i : Nat}, q ∈ pendL r i → ∃ (j : Nat) (x : Rec), r[j]? = some x ∧ x.pend = true ∧ q = { x.p with seq := ((i + j : Nat) : Int) + 1 }
  | [], _, h => by cases h
  | y :: r, i, h => by
    simp only [pendL] at h
    split at h
    · rename_i hp
      rcases List.mem_cons.1 h with h | h
      · exact ⟨0, y, rfl, hp, by simpa using h⟩
      · obtain ⟨j, x, h1, h2, h3⟩ := pendL_mem h
        exact ⟨j + 1, x, by simpa using h1, h2, by rw [h3, show i + (j + 1) = i + 1 + j by omega]⟩
    · obtain ⟨j, x, h1, h2, h3⟩ := pendL_mem h
      exact ⟨j + 1, x, by simpa using h1, h2, by rw [h3, show i + (j + 1) = i + 1 + j by omega]⟩

theorem pendL_upd {f : Rec → Rec} (hf : ∀ x, (f x).p = x.p ∧ (f x).pend = x.pend) : ∀ (r : List Rec) (j i : Nat), pendL (updR f r j) i = pendL r i
  | [], _, _ => rfl
  | x :: r, 0, i => by simp only [updR, pendL, (hf x).1, (hf x).2]
  | x :: r, j + 1, i => by simp only [updR, pendL, pendL_upd hf r j (i + 1)]

abbrev unp (x : Rec) : Rec := { x with pend := false }

theorem find_pend {q : Int} : ∀ {r : List Rec} {i k k' : Nat} {p : Pk}, find (pendL r i) q k = some (k', p) →
    ∃ (j : Nat) (x : Rec), r[j]? = some x ∧ x.pend = true ∧ q = ((i + j : Nat) : Int) + 1 ∧ p = { x.p with seq := ((i + j : Nat) : Int) + 1 } ∧ k ≤ k' ∧ (pendL r i).eraseIdx (k' - k) = pendL (updR unp r j) i ∧
      (k' = k → ∀ j' y, j' < j → r[j']? = some y → y.pend = false)
  | [], _, _, _, _, h => by cases h
  | y :: r, i, k, k', p, h => by
    simp only [pendL] at h
    split at h
    · rename_i hp
      simp only [find] at h
      split at h
      · rename_i hq
        cases h
        refine ⟨0, y, rfl, hp, by simpa using hq.symm, by simp, Nat.le_refl _, ?_, fun _ j' _ hj => absurd hj (by omega)⟩
        simp [pendL, hp, updR]
      · obtain ⟨j, x, h1, h2, h3, h4, h5, h6, h7⟩ := find_pend h
        refine ⟨j + 1, x, by simpa using h1, h2, by rw [h3]; simp; omega, by rw [h4, show i + (j + 1) = i + 1 + j by omega], by omega, ?_, fun e => by omega⟩
        rw [show k' - k = (k' - (k + 1)) + 1 by omega]
        simp only [pendL, hp, if_true, updR, List.eraseIdx_cons_succ, h6]
    · rename_i hp
      obtain ⟨j, x, h1, h2, h3, h4, h5, h6, h7⟩ := find_pend h
      refine ⟨j + 1, x, by simpa using h1, h2, by rw [h3]; simp; omega, by rw [h4, show i + (j + 1) = i + 1 + j by omega], h5, ?_, fun e j' z hj hz => ?_⟩
      · simp only [pendL, updR]
        rw [if_neg hp, if_neg hp]; exact h6
      · cases j' with
        | zero => simp at hz; subst hz; simpa using hp
        | succ j' => exact h7 e j' z (by omega) (by simpa using hz)

theorem due_mono {p : Pk} {h t h' t' : Int} (d : due p h t = true) (hh : h ≤ h') (ht : t ≤ t') : due p h' t' = true := by
  simp only [due, Bool.or_eq_true, Bool.and_eq_true, decide_eq_true_eq] at d ⊢
  omega

end Go.Br

namespace Go.Br
open Go

/-- Headers are not later than the chain; one that is closed stays so. -/
structure Mono (s : Cn) : Prop where
  mono : ∀ h ∈ s.heads, h.height ≤ s.hd.height ∧ h.time ≤ s.hd.time ∧ (h.opn = false → s.hd.opn = false)

/-- From one chain (s) to the other (o): r: what was sent. -/
structure Dir (s o : Cn) (r : List Rec) : Prop where
  ns : s.nsend = r.length + 1
  pk : s.hd.packets = pendL r 0
  hp : ∀ h ∈ s.heads, ∀ q ∈ h.packets, ∃ (i : Nat) (x : Rec), r[i]? = some x ∧ q = { x.p with seq := (i : Int) + 1 }
  rl : o.hd.answers.length ≤ r.length
  an : ∀ (i : Nat) (x : Rec), r[i]? = some x → x.ans = (if i < o.hd.answers.length then (if isUser x.p.to = true then 1 else 2) else 0)
  gd : ∀ (i : Nat) (x : Rec) (a : Ans), r[i]? = some x → o.hd.answers[i]? = some a → a.good = isUser x.p.to
  ha : ∀ h ∈ o.heads, ∃ l, o.hd.answers = h.answers ++ l
  J : ∀ h ∈ o.heads, ∀ (i : Nat) (x : Rec), r[i]? = some x → h.answers.length ≤ i → i < o.hd.answers.length → due x.p h.height h.time = false ∧ h.opn = true
  K : ∀ (i : Nat) (x : Rec), r[i]? = some x → x.pend = false → o.hd.answers.length ≤ i → o.hd.opn = false ∨ due x.p o.hd.height o.hd.time = true
  amt : ∀ x ∈ r, 0 < x.p.amount ∧ (0 ≤ x.p.frm ∧ x.p.frm < 3) ∧ (x.p.coin = 0 ∨ x.p.coin = 1)

def hasSum (s : Cn) (X : Int) : Int := s.has 0 X + s.has 1 X + s.has 2 X

/-- Coins: T of each. -/
structure Money (T : Int) (s o : Cn) (rs ro : List Rec) : Prop where
  pos : ∀ u X, 0 ≤ s.has u X ∧ 0 ≤ o.has u X
  tot : ∀ X, (X = 0 ∨ X = 1) → hasSum s X + hasSum o X + under X rs + under X ro = T
  lockS : s.locked + hasSum s s.n = T
  abtS : s.about = hasSum s (1 - s.n)
  lockO : o.locked + hasSum o o.n = T
  abtO : o.about = hasSum o (1 - o.n)

theorem Money.swap {T : Int} {s o : Cn} {rs ro : List Rec} (m : Money T s o rs ro) : Money T o s ro rs :=
  ⟨fun u X => (m.pos u X).symm, fun X h => by have := m.tot X h; omega, m.lockO, m.abtO, m.lockS, m.abtS⟩

structure Link (T : Int) (s o : Cn) (rs ro : List Rec) : Prop where
  ds : Dir s o rs
  dr : Dir o s ro
  ms : Mono s
  mo : Mono o
  n : (s.n = 0 ∧ o.n = 1) ∨ (s.n = 1 ∧ o.n = 0)
  mon : Money T s o rs ro

theorem Link.swap {T : Int} {s o : Cn} {rs ro : List Rec} (l : Link T s o rs ro) : Link T o s ro rs :=
  ⟨l.dr, l.ds, l.mo, l.ms, l.n.symm.imp And.symm And.symm, l.mon.swap⟩

/-! coins -/

theorem three' {u : Int} (h : 0 ≤ u ∧ u < 3) : u = 0 ∨ u = 1 ∨ u = 2 := by omega

theorem hasSum_set (s : Cn) (u c x X : Int) (hu : 0 ≤ u ∧ u < 3) (f : Cn) (hf : f.has = setHas s.has u c x) : hasSum f X = if X = c then hasSum s X - s.has u c + x else hasSum s X := by
  unfold hasSum
  rw [hf]
  unfold setHas
  by_cases hX : X = c
  · subst hX
    rcases three' hu with rfl | rfl | rfl <;> simp <;> omega
  · simp [hX]

theorem has_le {s : Cn} (hp : ∀ u X, 0 ≤ s.has u X) {u X : Int} (hu : 0 ≤ u ∧ u < 3) : s.has u X ≤ hasSum s X := by
  unfold hasSum
  have h0 := hp 0 X; have h1 := hp 1 X; have h2 := hp 2 X
  rcases three' hu with rfl | rfl | rfl <;> omega

theorem hasSum_nonneg {s : Cn} (hp : ∀ u X, 0 ≤ s.has u X) (X : Int) : 0 ≤ hasSum s X := by
  unfold hasSum
  have h0 := hp 0 X; have h1 := hp 1 X; have h2 := hp 2 X
  omega

/-- Coins come to an account: they were under way. -/
theorem money_credit {T : Int} {s s' o : Cn} {rs ro rs' ro' : List Rec} {u c x : Int} (hT : T < 1000000) (m : Money T s o rs ro) (hn : (s.n = 0 ∧ o.n = 1) ∨ (s.n = 1 ∧ o.n = 0)) (hu : 0 ≤ u ∧ u < 3) (hc : c = 0 ∨ c = 1) (hx : 0 ≤ x)
    (pr : ∀ X, 0 ≤ under X rs) (po : ∀ X, 0 ≤ under X ro) (hr : ∀ X, 0 ≤ under X rs' ∧ 0 ≤ under X ro')
    (hw : ∀ X, under X rs' + under X ro' = under X rs + under X ro - (if X = c then x else 0))
    (e1 : s'.has = (credit s u c x).has) (e2 : s'.locked = (credit s u c x).locked) (e3 : s'.about = (credit s u c x).about) (e4 : s'.n = s.n) : Money T s' o rs' ro' := by
  have hps := fun u X => (m.pos u X).1
  have hpo := fun u X => (m.pos u X).2
  have t := m.tot c hc
  have w := hw c
  rw [if_pos rfl] at w
  have s0 := hasSum_nonneg hps
  have o0 := hasSum_nonneg hpo
  have hle := has_le hps (X := c) hu
  have r1 := hr c; have r2 := pr c; have r3 := po c
  have a1 := s0 c; have a2 := o0 c; have a3 := hps u c
  have hb : wu (s.has u c + x) = s.has u c + x := wu_id (by omega)
  have hh : s'.has = setHas s.has u c (s.has u c + x) := by rw [e1]; show setHas s.has u c (wu (s.has u c + x)) = _; rw [hb]
  have hs := fun X => hasSum_set s u c (s.has u c + x) X hu s' hh
  have lS := m.lockS; have aS := m.abtS; have lO := m.lockO; have aO := m.abtO
  refine ⟨fun u' X => ⟨?_, hpo u' X⟩, fun X hX => ?_, ?_, ?_, lO, aO⟩
  · rw [hh]; unfold setHas; split
    · omega
    · exact hps u' X
  · have := m.tot X hX; have := hw X; rw [hs X]
    split <;> rename_i h
    · rw [if_pos h] at this; subst h; omega
    · rw [if_neg h] at this; omega
  · rw [e2, e4, hs s.n]
    show (if c = s.n then wu (s.locked - x) else s.locked) + _ = _
    by_cases h : c = s.n
    · rw [if_pos h, if_pos h.symm, wu_id (by rw [← h] at lS; have := aO; have h2 : o.about = hasSum o c := by rw [aO]; congr 1; omega
                                             rw [← h] at *; omega), ← h]
      rw [← h] at lS; omega
    · rw [if_neg h, if_neg (fun e => h e.symm)]; exact lS
  · rw [e3, e4, hs (1 - s.n)]
    show (if c = s.n then s.about else wu (s.about + x)) = _
    by_cases h : c = s.n
    · rw [if_pos h, if_neg (by omega)]; exact aS
    · have h2 : c = 1 - s.n := by omega
      rw [if_neg h, if_pos h2.symm, aS, ← h2, wu_id (by omega)]; omega

end Go.Br

namespace Go.Br
open Go

theorem get_snoc {α : Type} {l : List α} {x y : α} {i : Nat} (h : (l ++ [x])[i]? = some y) : l[i]? = some y ∨ (i = l.length ∧ y = x) := by
  rcases Nat.lt_or_ge i l.length with hl | hl
  · rw [List.getElem?_append_left hl] at h; exact .inl h
  · rw [List.getElem?_append_right hl] at h
    have h0 : i - l.length = 0 := by
      rcases Nat.eq_zero_or_pos (i - l.length) with h' | h'
      · exact h'
      · obtain ⟨k, hk⟩ : ∃ k, i - l.length = k + 1 := ⟨_, (Nat.succ_pred_eq_of_pos h').symm⟩
        rw [hk] at h; simp at h
    rw [h0] at h
    simp at h
    exact .inr ⟨by omega, h.symm⟩

theorem lt_some {α : Type} {l : List α} {i : Nat} {x : α} (h : l[i]? = some x) : i < l.length := (List.getElem?_eq_some_iff.1 h).1

/-- The sender's side stays where of the sender nothing of it turns. -/
theorem Dir.of_eqS {s s' o : Cn} {r : List Rec} (d : Dir s o r) (h1 : s'.nsend = s.nsend) (h2 : s'.hd.packets = s.hd.packets) (h3 : s'.heads = s.heads) : Dir s' o r :=
  ⟨h1 ▸ d.ns, h2 ▸ d.pk, by rw [h3]; exact d.hp, d.rl, d.an, d.gd, d.ha, d.J, d.K, d.amt⟩

/-- The receiver's side: its answers and headers stay; it may close. -/
theorem Dir.of_eqO {s o o' : Cn} {r : List Rec} (d : Dir s o r) (h1 : o'.hd.answers = o.hd.answers) (h2 : o'.heads = o.heads) (h3 : o.hd.opn = false → o'.hd.opn = false) (h4 : o'.hd.height = o.hd.height) (h5 : o'.hd.time = o.hd.time) : Dir s o' r :=
  ⟨d.ns, d.pk, d.hp, h1 ▸ d.rl, by rw [h1]; exact d.an, by rw [h1]; exact d.gd, by rw [h1, h2]; exact d.ha, by rw [h1, h2]; exact d.J, fun i x hx hp hl => by
    rw [h1] at hl; rw [h4, h5]
    exact (d.K i x hx hp hl).imp h3 id, d.amt⟩

theorem Mono.of_eq {s s' : Cn} (m : Mono s) (h2 : s'.heads = s.heads) (h3 : s.hd.opn = false → s'.hd.opn = false) (h4 : s'.hd.height = s.hd.height) (h5 : s'.hd.time = s.hd.time) : Mono s' :=
  ⟨fun h hh => by rw [h2] at hh; have := m.mono h hh; rw [h4, h5]; exact ⟨this.1, this.2.1, fun e => h3 (this.2.2 e)⟩⟩

theorem Money.of_eq {T : Int} {s s' o : Cn} {rs ro : List Rec} (m : Money T s o rs ro) (h1 : s'.has = s.has) (h2 : s'.locked = s.locked) (h3 : s'.about = s.about) (h4 : s'.n = s.n) : Money T s' o rs ro := by
  have hs : ∀ X, hasSum s' X = hasSum s X := fun X => by unfold hasSum; rw [h1]
  exact ⟨fun u X => by rw [h1]; exact m.pos u X, fun X hX => by rw [hs]; exact m.tot X hX, by rw [h2, h4, hs]; exact m.lockS, by rw [h3, h4, hs]; exact m.abtS, m.lockO, m.abtO⟩

variable {T : Int} {s o : Cn} {rs ro : List Rec}

/-- Nothing turns but that an end may close, or another header is known. -/
theorem link_shut {s' : Cn} (l : Link T s o rs ro) (h1 : s'.nsend = s.nsend) (h2 : s'.hd.packets = s.hd.packets) (h3 : s'.heads = s.heads) (h4 : s'.hd.answers = s.hd.answers) (h5 : s.hd.opn = false → s'.hd.opn = false) (h6 : s'.hd.height = s.hd.height) (h7 : s'.hd.time = s.hd.time)
    (h8 : s'.has = s.has) (h9 : s'.locked = s.locked) (h10 : s'.about = s.about) (h11 : s'.n = s.n) : Link T s' o rs ro :=
  ⟨l.ds.of_eqS h1 h2 h3, l.dr.of_eqO h4 h3 h5 h6 h7, l.ms.of_eq h3 h5 h6 h7, l.mo, by rw [h11]; exact l.n, l.mon.of_eq h8 h9 h10 h11⟩

theorem link_tick {B : Nat} (l : Link T s o rs ro) (ok : Ok B s) (hB : B < 100000000) (n : Int) (hn : 0 ≤ n) (ht : n ≤ 18446744073709551615 - s.hd.time) :
    Link T (commit { s with hd := { s.hd with time := wu (s.hd.time + n), height := wu (s.hd.height + 1) } }) o rs ro := by
  have h1 := ok.hd.time
  have h2 := ok.hd.height
  have w1 : wu (s.hd.time + n) = s.hd.time + n := wu_id (by omega)
  have w2 : wu (s.hd.height + 1) = s.hd.height + 1 := wu_id (by omega)
  rw [w1, w2]
  refine ⟨⟨l.ds.ns, l.ds.pk, ?_, l.ds.rl, l.ds.an, l.ds.gd, l.ds.ha, l.ds.J, l.ds.K, l.ds.amt⟩, ⟨l.dr.ns, l.dr.pk, l.dr.hp, l.dr.rl, l.dr.an, l.dr.gd, ?_, ?_, ?_, l.dr.amt⟩, ⟨?_⟩, l.mo, l.n, l.mon.of_eq rfl rfl rfl rfl⟩
  · intro h hh q hq
    rcases List.mem_append.1 hh with e | e
    · exact l.ds.hp h e q hq
    · rw [List.mem_singleton.1 e] at hq
      have hq' : q ∈ s.hd.packets := hq
      rw [l.ds.pk] at hq'
      obtain ⟨j, x, e1, _, e3⟩ := pendL_mem hq'
      exact ⟨j, x, e1, by rw [e3, Nat.zero_add]⟩
  · intro h hh
    rcases List.mem_append.1 hh with e | e
    · exact l.dr.ha h e
    · rw [List.mem_singleton.1 e]; exact ⟨[], by simp [commit]⟩
  · intro h hh i x hx hl hi
    rcases List.mem_append.1 hh with e | e
    · exact l.dr.J h e i x hx hl hi
    · rw [List.mem_singleton.1 e] at hl
      have hl' : s.hd.answers.length ≤ i := hl
      have hi' : i < s.hd.answers.length := hi
      omega
  · intro i x hx hp hl
    exact (l.dr.K i x hx hp hl).imp id fun d => due_mono d (by show s.hd.height ≤ s.hd.height + 1; omega) (by show s.hd.time ≤ s.hd.time + n; omega)
  · intro h hh
    rcases List.mem_append.1 hh with e | e
    · have := l.ms.mono h e
      exact ⟨by show _ ≤ s.hd.height + 1; omega, by show _ ≤ s.hd.time + n; omega, this.2.2⟩
    · rw [List.mem_singleton.1 e]; exact ⟨Int.le_refl _, Int.le_refl _, id⟩

/-- What was sent is entered. -/
def recOf (p : Pk) : Rec := ⟨p, 0, true⟩

theorem under_pos (h : ∀ x ∈ rs, 0 < x.p.amount ∧ (0 ≤ x.p.frm ∧ x.p.frm < 3) ∧ (x.p.coin = 0 ∨ x.p.coin = 1)) (X : Int) : 0 ≤ under X rs := under_nonneg X rs fun x hx => by have := h x hx; omega

theorem link_send {B : Nat} (hT : T < 1000000) (l : Link T s o rs ro) (ok : Ok B s) (hB : B < 100000000) (p : Pk) (ha : 0 ≤ p.amount) (he : (send s p).2.2 = 0) :
    (send s p).2.1 = rs.length + 1 ∧ Link T (send s p).1 o (rs ++ [recOf p]) ro := by
  unfold send at he ⊢
  split at he
  · cases he
  split at he
  · cases he
  split at he
  · cases he
  split at he
  · cases he
  split at he
  · cases he
  split at he
  · cases he
  rename_i h1 h2 h3 h4 h5 h6
  rw [if_neg h1, if_neg h2, if_neg h3, if_neg h4, if_neg h5, if_neg h6]
  refine ⟨l.ds.ns, ?_⟩
  have hns := ok.nsend
  have hu : 0 ≤ p.frm ∧ p.frm < 3 := by have : isUser p.frm = true := by simpa using h2
                                        simpa [isUser] using this
  have hc : p.coin = 0 ∨ p.coin = 1 := by omega
  have hps := fun u X => (l.mon.pos u X).1
  have hpo := fun u X => (l.mon.pos u X).2
  have hle := has_le hps (X := p.coin) hu
  have t := l.mon.tot p.coin hc
  have r1 := under_pos l.ds.amt p.coin
  have r2 := under_pos l.dr.amt p.coin
  have o0 := hasSum_nonneg hpo p.coin
  have s0 := hasSum_nonneg hps
  have hb : wu (s.has p.frm p.coin - p.amount) = s.has p.frm p.coin - p.amount := wu_id (by omega)
  have hwn : wu (s.nsend + 1) = s.nsend + 1 := wu_id (by omega)
  have hwt : ∀ X, under X (rs ++ [recOf p]) = under X rs + (if X = p.coin then p.amount else 0) := fun X => by
    rw [under_snoc]; congr 1
    unfold wt recOf
    by_cases h : X = p.coin
    · rw [if_pos h, if_pos ⟨h.symm, rfl, by show (0 : Int) ≠ 1; decide⟩]
    · rw [if_neg h, if_neg (fun e => h e.1.symm)]
  rw [hb, hwn]
  refine ⟨⟨?_, ?_, ?_, ?_, ?_, ?_, l.ds.ha, ?_, ?_, ?_⟩, l.dr.of_eqO rfl rfl id rfl rfl, l.ms.of_eq rfl id rfl rfl, l.mo, l.n, ?_⟩
  · show s.nsend + 1 = ((rs ++ [recOf p]).length : Int) + 1
    rw [l.ds.ns, List.length_append]; simp
  · show s.hd.packets ++ [{ p with seq := s.nsend }] = pendL (rs ++ [recOf p]) 0
    rw [pendL_snoc, l.ds.pk, l.ds.ns]; simp [recOf]
  · intro h hh q hq
    obtain ⟨i, x, e1, e2⟩ := l.ds.hp h hh q hq
    exact ⟨i, x, by rw [List.getElem?_append_left (lt_some e1)]; exact e1, e2⟩
  · show o.hd.answers.length ≤ (rs ++ [recOf p]).length
    rw [List.length_append]; have := l.ds.rl; omega
  · intro i x hx
    rcases get_snoc hx with e | ⟨rfl, rfl⟩
    · exact l.ds.an i x e
    · rw [if_neg (by have := l.ds.rl; omega)]; rfl
  · intro i x a hx hA
    rcases get_snoc hx with e | ⟨rfl, rfl⟩
    · exact l.ds.gd i x a e hA
    · have := lt_some hA; have := l.ds.rl; omega
  · intro h hh i x hx hl hi
    rcases get_snoc hx with e | ⟨rfl, rfl⟩
    · exact l.ds.J h hh i x e hl hi
    · have := l.ds.rl; omega
  · intro i x hx hp hl
    rcases get_snoc hx with e | ⟨rfl, rfl⟩
    · exact l.ds.K i x e hp hl
    · cases hp
  · intro x hx
    rcases List.mem_append.1 hx with e | e
    · exact l.ds.amt x e
    · rw [List.mem_singleton.1 e]; exact ⟨by show 0 < p.amount; omega, hu, hc⟩
  · have hs := fun (f : Cn) (hf : f.has = setHas s.has p.frm p.coin (s.has p.frm p.coin - p.amount)) X => hasSum_set s p.frm p.coin (s.has p.frm p.coin - p.amount) X hu f hf
    have lS := l.mon.lockS; have aS := l.mon.abtS
    refine ⟨fun u X => ⟨?_, hpo u X⟩, fun X hX => ?_, ?_, ?_, l.mon.lockO, l.mon.abtO⟩
    · show 0 ≤ setHas s.has p.frm p.coin _ u X
      unfold setHas; split
      · omega
      · exact hps u X
    · rw [hs _ rfl X, hwt X]
      have := l.mon.tot X hX
      split
      · rename_i h; subst h; omega
      · omega
    · rw [hs _ rfl]
      show (if p.coin = s.n then wu (s.locked + p.amount) else s.locked) + _ = T
      have hn := s0 s.n
      by_cases h : p.coin = s.n
      · rw [if_pos h, if_pos h.symm]
        have e1 : hasSum s s.n = hasSum s p.coin := by rw [h]
        rw [e1] at lS
        rw [← h, wu_id (by omega)]; omega
      · rw [if_neg h, if_neg (fun e => h e.symm)]; exact lS
    · rw [hs _ rfl]
      show (if p.coin = s.n then s.about else wu (s.about - p.amount)) = (if 1 - s.n = p.coin then hasSum s (1 - s.n) - s.has p.frm p.coin + (s.has p.frm p.coin - p.amount) else hasSum s (1 - s.n))
      by_cases h : p.coin = s.n
      · rw [if_pos h, if_neg (by have := l.n; omega)]; exact aS
      · have h2 : p.coin = 1 - s.n := by
          rcases l.n with ⟨e, _⟩ | ⟨e, _⟩ <;> rcases hc with e' | e' <;> rw [e, e'] at h ⊢ <;> simp at h ⊢
        rw [if_neg h, if_pos h2.symm, aS, ← h2, wu_id (by omega)]; omega

/-! ### a packet is received -/

abbrev answ (x : Rec) : Rec := { x with ans := if isUser x.p.to = true then 1 else 2 }

theorem due_seq (p : Pk) (q h t : Int) : due { p with seq := q } h t = due p h t := rfl

theorem link_recv {B : Nat} (hT : T < 1000000) (l : Link T s o rs ro) (ok : Ok B s) (hB : B < 100000000) (q : Int) {kn : Hd} (hk : kn ∈ o.heads) (he : (recv s q kn).2 = 0) :
    ∃ x, ro[s.hd.answers.length]? = some x ∧ q = s.hd.answers.length + 1 ∧ x.pend = true ∧ x.ans = 0 ∧ Link T (recv s q kn).1 o rs (updR answ ro s.hd.answers.length) := by
  have hnr := ok.hd.nrecv
  unfold recv at he ⊢
  split at he
  · cases he
  rename_i h1
  split at he
  · cases he
  rename_i h2
  rw [if_neg h1, if_neg h2]
  split at he
  · cases he
  rename_i i p hf
  split at he
  · cases he
  rename_i h4
  rw [if_neg h4]
  dsimp only
  have hq : q = s.hd.nrecv := by simpa using h2
  obtain ⟨_, hg, _, hps⟩ := find_get hf
  obtain ⟨j, x, e1, e2⟩ := l.dr.hp kn hk p (List.mem_of_getElem? hg)
  have hj : j = s.hd.answers.length := by
    have : p.seq = (j : Int) + 1 := by rw [e2]
    omega
  subst hj
  have hdue : due x.p s.hd.height s.hd.time = false := by
    rw [e2, due_seq] at h4; simpa using h4
  have hop : s.hd.opn = true := by simpa using h1
  have hpend : x.pend = true := by
    cases hp : x.pend with
    | true => rfl
    | false =>
      rcases l.dr.K _ x e1 hp (Nat.le_refl _) with e | e
      · rw [hop] at e; cases e
      · rw [hdue] at e; cases e
  have hans : x.ans = 0 := by rw [l.dr.an _ x e1, if_neg (Nat.lt_irrefl _)]
  refine ⟨x, e1, by omega, hpend, hans, ?_⟩
  have hxm := l.dr.amt x (List.mem_of_getElem? e1)
  have hto : p.to = x.p.to := by rw [e2]
  have hco : p.coin = x.p.coin := by rw [e2]
  have ham : p.amount = x.p.amount := by rw [e2]
  have hw : wu (s.hd.nrecv + 1) = s.hd.nrecv + 1 := wu_id (by have := ok.hd.recvB; omega)
  have hget : ∀ {i y}, (updR answ ro s.hd.answers.length)[i]? = some y → ∃ z, ro[i]? = some z ∧ y.p = z.p ∧ y.pend = z.pend ∧ y.ans = (if i = s.hd.answers.length then (if isUser z.p.to = true then 1 else 2) else z.ans) := by
    intro i y hy
    rw [updR_get] at hy
    split at hy
    · rename_i hi
      subst hi
      rw [e1] at hy
      simp at hy
      exact ⟨x, e1, by rw [← hy], by rw [← hy], by rw [← hy, if_pos rfl]⟩
    · rename_i hi
      exact ⟨y, hy, rfl, rfl, by rw [if_neg hi]⟩
  -- the sender's side
  have dr : ∀ s' : Cn, s'.hd.answers = s.hd.answers ++ [⟨q, isUser p.to⟩] → s'.heads = s.heads → s'.hd.opn = s.hd.opn → s'.hd.height = s.hd.height → s'.hd.time = s.hd.time → Dir o s' (updR answ ro s.hd.answers.length) := by
    intro s' a1 a2 a3 a4 a5
    have al : s'.hd.answers.length = s.hd.answers.length + 1 := by rw [a1]; simp
    refine ⟨by rw [updR_len]; exact l.dr.ns, by rw [pendL_upd (f := answ) (fun _ => ⟨rfl, rfl⟩)]; exact l.dr.pk, ?_, ?_, ?_, ?_, ?_, ?_, ?_, ?_⟩
    · intro h hh r hr
      obtain ⟨i, y, f1, f2⟩ := l.dr.hp h hh r hr
      have : (updR answ ro s.hd.answers.length)[i]? = some (if i = s.hd.answers.length then answ y else y) := by
        rw [updR_get]
        split
        · rw [f1]; rfl
        · exact f1
      refine ⟨i, _, this, ?_⟩
      rw [f2]; split <;> rfl
    · rw [al, updR_len]
      exact lt_some e1
    · intro i y hy
      obtain ⟨z, z1, z2, _, z4⟩ := hget hy
      rw [z4, z2, al]
      have := l.dr.an i z z1
      by_cases hi : i = s.hd.answers.length
      · rw [if_pos hi, if_pos (show i < s.hd.answers.length + 1 by omega)]
      · rw [if_neg hi, this]
        by_cases h' : i < s.hd.answers.length
        · rw [if_pos h', if_pos (show i < s.hd.answers.length + 1 by omega)]
        · rw [if_neg h', if_neg (show ¬ i < s.hd.answers.length + 1 by omega)]
    · intro i y a hy hA
      obtain ⟨z, z1, z2, _, _⟩ := hget hy
      rw [a1] at hA
      rcases get_snoc hA with e | ⟨rfl, rfl⟩
      · rw [z2]; exact l.dr.gd i z a z1 e
      · rw [e1] at z1; cases z1
        rw [z2, ← hto]
    · intro h hh
      rw [a2] at hh
      obtain ⟨t, ht⟩ := l.dr.ha h hh
      exact ⟨t ++ [⟨q, isUser p.to⟩], by rw [a1, ht, List.append_assoc]⟩
    · intro h hh i y hy hl hi
      rw [a2] at hh
      obtain ⟨z, z1, z2, _, _⟩ := hget hy
      rw [z2]
      rw [al] at hi
      by_cases hii : i = s.hd.answers.length
      · subst hii
        rw [e1] at z1; cases z1
        have hm := l.ms.mono h hh
        refine ⟨?_, ?_⟩
        · cases hd : due x.p h.height h.time with
          | false => rfl
          | true => rw [due_mono hd hm.1 hm.2.1] at hdue; cases hdue
        · cases ho : h.opn with
          | true => rfl
          | false => rw [hm.2.2 ho] at hop; cases hop
      · exact l.dr.J h hh i z z1 hl (by omega)
    · intro i y hy hp hl
      obtain ⟨z, z1, z2, z3, _⟩ := hget hy
      rw [z2, a3, a4, a5]
      rw [al] at hl
      exact l.dr.K i z z1 (by rw [← z3]; exact hp) (by omega)
    · intro y hy
      obtain ⟨i, hi, hy'⟩ := List.getElem_of_mem hy
      obtain ⟨z, z1, z2, _, _⟩ := hget (i := i) (y := y) (by rw [List.getElem?_eq_getElem hi, hy'])
      rw [z2]; exact l.dr.amt z (List.mem_of_getElem? z1)
  have hwt : ∀ X, under X (updR answ ro s.hd.answers.length) = under X ro - (if X = x.p.coin then (if isUser x.p.to = true then x.p.amount else 0) else 0) := by
    intro X
    rw [under_upd X answ ro _ x e1]
    have w1 : wt X x = if X = x.p.coin then x.p.amount else 0 := by
      unfold wt
      by_cases h : X = x.p.coin
      · rw [if_pos h, if_pos ⟨h.symm, hpend, by rw [hans]; decide⟩]
      · rw [if_neg h, if_neg (fun e => h e.1.symm)]
    have w2 : wt X (answ x) = if X = x.p.coin then (if isUser x.p.to = true then 0 else x.p.amount) else 0 := by
      unfold wt
      by_cases h : X = x.p.coin
      · rw [if_pos h]
        by_cases hu : isUser x.p.to = true
        · rw [if_pos hu, if_neg]; rintro ⟨_, _, e⟩; exact e (by show (if isUser x.p.to = true then (1 : Int) else 2) = 1; rw [if_pos hu])
        · rw [if_neg hu, if_pos]; exact ⟨h.symm, hpend, by show (if isUser x.p.to = true then (1 : Int) else 2) ≠ 1; rw [if_neg hu]; decide⟩
      · rw [if_neg h, if_neg (fun e => h e.1.symm)]
    rw [w1, w2]
    split
    · split <;> omega
    · omega
  have hup : ∀ X, 0 ≤ under X (updR answ ro s.hd.answers.length) := fun X => under_nonneg X _ fun y hy => by
    obtain ⟨i, hi, hy'⟩ := List.getElem_of_mem hy
    obtain ⟨z, z1, z2, _, _⟩ := hget (i := i) (y := y) (by rw [List.getElem?_eq_getElem hi, hy'])
    rw [z2]; have := l.dr.amt z (List.mem_of_getElem? z1); omega
  by_cases hu : isUser p.to = true
  · rw [if_pos hu]
    refine ⟨l.ds.of_eqS rfl rfl rfl, dr _ rfl rfl rfl rfl rfl, l.ms.of_eq rfl id rfl rfl, l.mo, l.n, ?_⟩
    refine money_credit (u := p.to) (c := p.coin) (x := p.amount) hT l.mon l.n (by simpa [isUser] using hu) (by rw [hco]; exact hxm.2.2) (by rw [ham]; omega) (under_pos l.ds.amt) (under_pos l.dr.amt) (fun X => ⟨under_pos l.ds.amt X, hup X⟩) (fun X => ?_) rfl rfl rfl rfl
    rw [hwt X, hco, ham, ← hto, if_pos hu]; omega
  · rw [if_neg hu]
    refine ⟨l.ds.of_eqS rfl rfl rfl, dr _ rfl rfl rfl rfl rfl, l.ms.of_eq rfl id rfl rfl, l.mo, l.n, ?_⟩
    have m := l.mon
    refine ⟨m.pos, fun X hX => ?_, m.lockS, m.abtS, m.lockO, m.abtO⟩
    have := m.tot X hX
    rw [hwt X, ← hto, if_neg hu]
    show hasSum s X + hasSum o X + under X rs + _ = T
    split <;> omega

end Go.Br

namespace Go.Br
open Go

variable {T : Int} {s o : Cn} {rs ro : List Rec}

theorem unp_get {r : List Rec} {j i : Nat} {y : Rec} (hy : (updR unp r j)[i]? = some y) : ∃ z, r[i]? = some z ∧ y.p = z.p ∧ y.ans = z.ans ∧ y.pend = (if i = j then false else z.pend) := by
  rw [updR_get] at hy
  split at hy
  · rename_i hi
    cases hr : r[i]? with
    | none => rw [hr] at hy; cases hy
    | some z => rw [hr] at hy; simp at hy; exact ⟨z, rfl, by rw [← hy], by rw [← hy], by rw [← hy, if_pos hi]⟩
  · rename_i hi
    exact ⟨y, hy, rfl, rfl, by rw [if_neg hi]⟩

theorem Dir.unp {s' : Cn} {r : List Rec} (d : Dir s o r) {j : Nat} {x : Rec} (hx : r[j]? = some x) (h1 : s'.nsend = s.nsend) (h2 : s'.hd.packets = pendL (updR unp r j) 0) (h3 : s'.heads = s.heads)
    (hK : o.hd.answers.length ≤ j → o.hd.opn = false ∨ due x.p o.hd.height o.hd.time = true) : Dir s' o (updR Go.Br.unp r j) := by
  refine ⟨by rw [h1, updR_len]; exact d.ns, h2, ?_, by rw [updR_len]; exact d.rl, ?_, ?_, d.ha, ?_, ?_, ?_⟩
  · intro h hh q hq
    rw [h3] at hh
    obtain ⟨i, y, f1, f2⟩ := d.hp h hh q hq
    have : (updR Go.Br.unp r j)[i]? = some (if i = j then Go.Br.unp y else y) := by
      rw [updR_get]
      split
      · rw [f1]; rfl
      · exact f1
    refine ⟨i, _, this, ?_⟩
    rw [f2]; split <;> rfl
  · intro i y hy
    obtain ⟨z, z1, z2, z3, _⟩ := unp_get hy
    rw [z3, z2]; exact d.an i z z1
  · intro i y a hy hA
    obtain ⟨z, z1, z2, _, _⟩ := unp_get hy
    rw [z2]; exact d.gd i z a z1 hA
  · intro h hh i y hy hl hi
    obtain ⟨z, z1, z2, _, _⟩ := unp_get hy
    rw [z2]; exact d.J h hh i z z1 hl hi
  · intro i y hy hp hl
    obtain ⟨z, z1, z2, _, z4⟩ := unp_get hy
    rw [z2]
    by_cases hi : i = j
    · subst hi
      rw [hx] at z1; cases z1
      exact hK hl
    · rw [if_neg hi] at z4
      exact d.K i z z1 (by rw [← z4]; exact hp) hl
  · intro y hy
    obtain ⟨i, hi, hy'⟩ := List.getElem_of_mem hy
    obtain ⟨z, z1, z2, _, _⟩ := unp_get (i := i) (y := y) (by rw [List.getElem?_eq_getElem hi, hy'])
    rw [z2]; exact d.amt z (List.mem_of_getElem? z1)

theorem under_unp {r : List Rec} {j : Nat} {x : Rec} (hx : r[j]? = some x) (hp : x.pend = true) (X : Int) : under X (updR unp r j) = under X r - (if X = x.p.coin then (if x.ans ≠ 1 then x.p.amount else 0) else 0) := by
  rw [under_upd X unp r j x hx]
  have w2 : wt X (unp x) = 0 := by unfold wt; rw [if_neg]; rintro ⟨_, e, _⟩; cases e
  rw [w2]
  unfold wt
  by_cases h : X = x.p.coin
  · by_cases ha : x.ans = 1
    · rw [if_neg (by rintro ⟨_, _, e⟩; exact e ha), if_pos h, if_neg (by simpa using ha)]; omega
    · rw [if_pos ⟨h.symm, hp, ha⟩, if_pos h, if_pos ha]; omega
  · rw [if_neg (fun e => h e.1.symm), if_neg h]; omega

theorem under_unp_pos {r : List Rec} (j : Nat) (h : ∀ x ∈ r, 0 < x.p.amount ∧ (0 ≤ x.p.frm ∧ x.p.frm < 3) ∧ (x.p.coin = 0 ∨ x.p.coin = 1)) (X : Int) : 0 ≤ under X (updR unp r j) := under_nonneg X _ fun y hy => by
  obtain ⟨i, hi, hy'⟩ := List.getElem_of_mem hy
  obtain ⟨z, z1, z2, _, _⟩ := unp_get (i := i) (y := y) (by rw [List.getElem?_eq_getElem hi, hy'])
  rw [z2]; have := h z (List.mem_of_getElem? z1); omega

theorem findA_mem {q : Int} : ∀ {l : List Ans} {a : Ans}, findA l q = some a → ∃ i : Nat, l[i]? = some a ∧ a.seq = q
  | [], _, h => by cases h
  | x :: l, a, h => by
    simp only [findA] at h
    split at h
    · cases h; exact ⟨0, rfl, by assumption⟩
    · obtain ⟨i, h1, h2⟩ := findA_mem h
      exact ⟨i + 1, by simpa using h1, h2⟩

theorem link_ack {B : Nat} (hT : T < 1000000) (l : Link T s o rs ro) (q : Int) {kn : Hd} (hk : kn ∈ o.heads) (okk : OkHd B kn) (he : (ack s q kn).2 = 0) :
    ∃ (j : Nat) (x : Rec), rs[j]? = some x ∧ q = (j : Int) + 1 ∧ x.pend = true ∧ x.ans ≠ 0 ∧ (∀ j' y, j' < j → rs[j']? = some y → y.pend = false) ∧ Link T (ack s q kn).1 o (updR unp rs j) ro := by
  unfold ack at he ⊢
  split at he
  · cases he
  rename_i i p hf
  split at he
  · cases he
  rename_i hi0
  rw [if_neg hi0]
  split at he
  · cases he
  rename_i a hA
  dsimp only
  rw [l.ds.pk] at hf
  obtain ⟨j, x, h1, h2, h3, h4, _, h6, h7⟩ := find_pend hf
  have hi : i = 0 := by omega
  subst hi
  rw [Nat.zero_add] at h3 h4
  obtain ⟨k, k1, k2⟩ := findA_mem hA
  have hkj : k = j := by have := okk.answers k a k1; omega
  subst hkj
  obtain ⟨t, ht⟩ := l.ds.ha kn hk
  have ho : o.hd.answers[k]? = some a := by rw [ht, List.getElem?_append_left (lt_some k1)]; exact k1
  have hlt := lt_some ho
  have han := l.ds.an k x h1
  rw [if_pos hlt] at han
  have hg := l.ds.gd k x a h1 ho
  have hxm := l.ds.amt x (List.mem_of_getElem? h1)
  have hd := fun (s' : Cn) e1 e2 e3 => Dir.unp (s' := s') l.ds h1 e1 e2 e3 (fun hl => absurd hlt (by omega))
  have hpk : s.hd.packets.eraseIdx 0 = pendL (updR unp rs k) 0 := by rw [l.ds.pk]; simpa using h6
  refine ⟨k, x, h1, h3, h2, by rw [han]; split <;> decide, h7 rfl, ?_⟩
  have hfr : p.frm = x.p.frm := by rw [h4]
  have hco : p.coin = x.p.coin := by rw [h4]
  have ham : p.amount = x.p.amount := by rw [h4]
  by_cases hgd : a.good = true
  · rw [if_pos hgd]
    refine ⟨hd _ rfl hpk rfl, l.dr.of_eqO rfl rfl id rfl rfl, l.ms.of_eq rfl id rfl rfl, l.mo, l.n, ?_⟩
    have m := l.mon
    refine ⟨m.pos, fun X hX => ?_, m.lockS, m.abtS, m.lockO, m.abtO⟩
    have := m.tot X hX
    rw [under_unp h1 h2 X]
    have h11 : x.ans = 1 := by rw [han, ← hg, if_pos hgd]
    rw [if_neg (show ¬ x.ans ≠ 1 by simpa using h11)]
    show hasSum s X + hasSum o X + _ + _ = T
    split <;> omega
  · rw [if_neg hgd]
    have h12 : x.ans ≠ 1 := by rw [han, ← hg, if_neg hgd]; decide
    refine ⟨hd _ rfl hpk rfl, l.dr.of_eqO rfl rfl id rfl rfl, l.ms.of_eq rfl id rfl rfl, l.mo, l.n, ?_⟩
    refine money_credit (u := p.frm) (c := p.coin) (x := p.amount) hT l.mon l.n (by rw [hfr]; exact hxm.2.1) (by rw [hco]; exact hxm.2.2) (by rw [ham]; omega) (under_pos l.ds.amt) (under_pos l.dr.amt) (fun X => ⟨under_unp_pos _ l.ds.amt X, under_pos l.dr.amt X⟩) (fun X => ?_) rfl rfl rfl rfl
    rw [under_unp h1 h2 X, if_pos h12, hco, ham]; omega

theorem link_back {B : Nat} (hT : T < 1000000) (l : Link T s o rs ro) (q : Int) {kn : Hd} (cl : Bool) (hk : kn ∈ o.heads) (okk : OkHd B kn) (he : (back s q kn cl).2 = 0) :
    ∃ (j : Nat) (x : Rec), rs[j]? = some x ∧ q = (j : Int) + 1 ∧ x.pend = true ∧ x.ans = 0 ∧ (back s q kn cl).1.hd.opn = false ∧ Link T (back s q kn cl).1 o (updR unp rs j) ro := by
  unfold back at he ⊢
  split at he
  · cases he
  rename_i i p hf
  split at he
  · cases he
  rename_i c1
  split at he
  · cases he
  rename_i c2
  rw [if_neg c1, if_neg c2]
  dsimp only
  rw [l.ds.pk] at hf
  obtain ⟨j, x, h1, h2, h3, h4, _, h6, _⟩ := find_pend hf
  rw [Nat.zero_add] at h3 h4
  have hdp : ∀ h t, due p h t = due x.p h t := fun h t => by rw [h4]; rfl
  have hnr := okk.nrecv
  have hkl : kn.answers.length ≤ j := by omega
  have hmo := l.mo.mono kn hk
  have hwhy : (cl = true ∧ kn.opn = false) ∨ (cl = false ∧ due x.p kn.height kn.time = true) := by
    cases cl with
    | true => left; refine ⟨rfl, ?_⟩; cases h : kn.opn with
      | false => rfl
      | true => exact absurd ⟨rfl, h⟩ c1
    | false => right; refine ⟨rfl, ?_⟩; rw [← hdp]; cases h : due p kn.height kn.time with
      | true => rfl
      | false => exact absurd (.inl ⟨rfl, h⟩) c2
  have hR : o.hd.answers.length ≤ j := by
    rcases Nat.lt_or_ge j o.hd.answers.length with hl | hl
    · exfalso
      obtain ⟨j1, j2⟩ := l.ds.J kn hk j x h1 hkl hl
      rcases hwhy with ⟨_, e⟩ | ⟨_, e⟩
      · rw [j2] at e; cases e
      · rw [j1] at e; cases e
    · exact hl
  have hans : x.ans = 0 := by rw [l.ds.an j x h1, if_neg (by omega)]
  have hxm := l.ds.amt x (List.mem_of_getElem? h1)
  have hfr : p.frm = x.p.frm := by rw [h4]
  have hco : p.coin = x.p.coin := by rw [h4]
  have ham : p.amount = x.p.amount := by rw [h4]
  have hpk : s.hd.packets.eraseIdx i = pendL (updR unp rs j) 0 := by rw [l.ds.pk]; simpa using h6
  refine ⟨j, x, h1, h3, h2, hans, rfl, ?_⟩
  refine ⟨Dir.unp l.ds h1 rfl hpk rfl (fun _ => ?_), l.dr.of_eqO rfl rfl (fun _ => rfl) rfl rfl, l.ms.of_eq rfl (fun _ => rfl) rfl rfl, l.mo, l.n, ?_⟩
  · rcases hwhy with ⟨_, e⟩ | ⟨_, e⟩
    · exact .inl (hmo.2.2 e)
    · exact .inr (due_mono e hmo.1 hmo.2.1)
  · refine money_credit (u := p.frm) (c := p.coin) (x := p.amount) hT l.mon l.n (by rw [hfr]; exact hxm.2.1) (by rw [hco]; exact hxm.2.2) (by rw [ham]; omega) (under_pos l.ds.amt) (under_pos l.dr.amt) (fun X => ⟨under_unp_pos _ l.ds.amt X, under_pos l.dr.amt X⟩) (fun X => ?_) rfl rfl rfl rfl
    rw [under_unp h1 h2 X, if_pos (show x.ans ≠ 1 by rw [hans]; decide), hco, ham]; omega

/-! ### all steps -/

/-- What is entered behind a step: own: what the chain has sent; oth: what the other has. -/
def tookR (x : Stp) (own oth : List Rec) : List Rec × List Rec :=
  if x.kind = 1 then (own ++ [recOf x.p], oth)
  else if x.kind = 4 then (own, updR answ oth (x.n - 1).toNat)
  else if x.kind = 5 ∨ x.kind = 6 ∨ x.kind = 7 then (updR unp own (x.n - 1).toNat, oth)
  else (own, oth)

structure TookOk (x : Stp) (n : Int) (own oth : List Rec) (opn : Bool) : Prop where
  send : x.kind = 1 → n = own.length + 1
  recv : x.kind = 4 → ∃ (j : Nat) (y : Rec), oth[j]? = some y ∧ x.n = (j : Int) + 1 ∧ y.pend = true ∧ y.ans = 0 ∧ ∀ z, 0 < j → oth[j - 1]? = some z → z.ans ≠ 0
  ack : x.kind = 5 → ∃ (j : Nat) (y : Rec), own[j]? = some y ∧ x.n = (j : Int) + 1 ∧ y.pend = true ∧ y.ans ≠ 0 ∧ ∀ j' z, j' < j → own[j']? = some z → z.pend = false
  back : x.kind = 6 ∨ x.kind = 7 → ∃ (j : Nat) (y : Rec), own[j]? = some y ∧ x.n = (j : Int) + 1 ∧ y.pend = true ∧ y.ans = 0 ∧ opn = false

theorem kn_mem {s o : Cn} (h : s.known < o.heads.length) : knOf s o ∈ o.heads := by
  unfold knOf
  rw [List.getD_eq_getElem?_getD, List.getElem?_eq_getElem h]
  exact List.getElem_mem h

theorem step_err {s : Cn} {x : Stp} {kn : Hd} {nh : Nat} (he : (step s x kn nh).2.2 ≠ 0) : (step s x kn nh).1 = s ∧ (step s x kn nh).2.1 = 0 := by
  unfold step at he ⊢
  split
  · rename_i h1
    rw [if_pos h1] at he
    unfold send at he ⊢
    repeat' (first | exact ⟨rfl, rfl⟩ | (split; · exact ⟨rfl, rfl⟩) | (exfalso; revert he; simp_all; done))
    all_goals (exfalso; apply he; simp_all)
  rename_i h1
  rw [if_neg h1] at he
  split
  · rename_i h2
    rw [if_pos h2] at he
    split
    · exact ⟨rfl, rfl⟩
    · rename_i h; rw [if_neg h] at he; exact absurd rfl he
  rename_i h2
  rw [if_neg h2] at he
  split
  · rename_i h3
    rw [if_pos h3] at he
    split
    · exact ⟨rfl, rfl⟩
    · rename_i h; rw [if_neg h] at he; exact absurd rfl he
  rename_i h3
  rw [if_neg h3] at he
  split
  · rename_i h4
    rw [if_pos h4] at he
    split
    · exact ⟨rfl, rfl⟩
    · rename_i h; rw [if_neg h] at he; exact absurd rfl he
  rename_i h4
  rw [if_neg h4] at he
  split
  · rename_i h5
    rw [if_pos h5] at he
    split
    · exact ⟨rfl, rfl⟩
    · rename_i h; rw [if_neg h] at he
      split
      · exact ⟨rfl, rfl⟩
      · rename_i h'; rw [if_neg h'] at he; exact absurd rfl he
  rename_i h5
  rw [if_neg h5] at he
  have hr : ∀ q, (Go.Br.recv s q kn).2 ≠ 0 → (Go.Br.recv s q kn).1 = s := fun q h => by
    unfold Go.Br.recv at h ⊢
    split
    · rfl
    · split
      · rfl
      · split
        · rfl
        · split
          · rfl
          · simp_all
  have ha : ∀ q, (Go.Br.ack s q kn).2 ≠ 0 → (Go.Br.ack s q kn).1 = s := fun q h => by
    unfold Go.Br.ack at h ⊢
    split
    · rfl
    · split
      · rfl
      · split
        · rfl
        · simp_all
  have hb : ∀ q cl, (Go.Br.back s q kn cl).2 ≠ 0 → (Go.Br.back s q kn cl).1 = s := fun q cl h => by
    unfold Go.Br.back at h ⊢
    split
    · rfl
    · split
      · rfl
      · split
        · rfl
        · simp_all
  split
  · rename_i h6; rw [if_pos h6] at he; exact ⟨hr _ he, rfl⟩
  rename_i h6
  rw [if_neg h6] at he
  split
  · rename_i h7; rw [if_pos h7] at he; exact ⟨ha _ he, rfl⟩
  rename_i h7
  rw [if_neg h7] at he
  split
  · rename_i h8; rw [if_pos h8] at he; exact ⟨hb _ _ he, rfl⟩
  rename_i h8
  rw [if_neg h8] at he
  split
  · rename_i h9; rw [if_pos h9] at he; exact ⟨hb _ _ he, rfl⟩
  exact ⟨rfl, rfl⟩

end Go.Br
