/-
  THE LOGIC, NINTH PART: chunks brought to the front, opened, folded; out-of-order takes; loops.
-/
import Derived.Test.YtedaknlacigbhaaLxH
namespace Go.Lx
open Go

/-- Ways that meet again: what they meet in is found as the first comes there. -/
theorem join (φ : Prop) {C G : Prop} (f : (φ → C) → G) (c : φ → C) : G := f c

class Nth (Γ : List Ch) (i : Nat) (c : outParam Ch) (Γ' : outParam (List Ch)) : Prop where
  perm : Γ.Perm (c :: Γ')
instance nth_zero {Γ : List Ch} {c : Ch} : Nth (c :: Γ) 0 c Γ := ⟨.refl _⟩
instance nth_succ {Γ Γ' : List Ch} {c d : Ch} {i : Nat} [e : Nth Γ i c Γ'] : Nth (d :: Γ) (i + 1) c (d :: Γ') := ⟨(e.perm.cons d).trans (.swap _ _ _)⟩

/-- What Γ' says follows from Γ, of a part of the heap. -/
def Ent (Γ Γ' : List Ch) : Prop := ∀ h, Star Γ h → ∃ h', h'.Le h ∧ Star Γ' h'

theorem Ent.refl (Γ : List Ch) : Ent Γ Γ := fun h s => ⟨h, .refl h, s⟩
theorem Ent.trans {Γ Γ' Γ'' : List Ch} (a : Ent Γ Γ') (b : Ent Γ' Γ'') : Ent Γ Γ'' := fun h s => by
  obtain ⟨h1, l1, s1⟩ := a h s
  obtain ⟨h2, l2, s2⟩ := b h1 s1
  exact ⟨h2, l2.trans l1, s2⟩
theorem Ent.star {Γ Γ' : List Ch} (a : ∀ h, Star Γ h → Star Γ' h) : Ent Γ Γ' := fun h s => ⟨h, .refl h, a h s⟩
theorem Ent.perm {Γ Γ' : List Ch} (p : Γ.Perm Γ') : Ent Γ Γ' := .star fun _ s => s.perm p
theorem Ent.drop {Γ Γ' : List Ch} {c : Ch} (a : Ent Γ Γ') : Ent (c :: Γ) Γ' := Ent.trans (fun _ s => s.drop) a

theorem Join.mono {h1 h2 h h1' : LH} (j : Join h1 h2 h) (l : h1'.Le h1) : ∃ h', h'.Le h ∧ Join h1' h2 h' := by
  refine ⟨fun b => match h1' b with | some x => some x | none => h2 b, ?_, ?_⟩
  · intro b p o e
    cases e1 : h1' b with
    | some x =>
      obtain ⟨p1, o1⟩ := x
      simp only [e1] at e; cases e
      obtain ⟨p', e2, q⟩ := l b p o e1
      obtain ⟨p'', e3, q'⟩ := j.le_left b p' o e2
      exact ⟨p'', e3, fun hp => q' (q hp)⟩
    | none => simp only [e1] at e; exact j.le_right b p o e
  · intro b
    cases e1 : h1' b with
    | none => left; simp [e1]
    | some x =>
      obtain ⟨p1, o1⟩ := x
      obtain ⟨p', e2, q⟩ := l b p1 o1 e1
      rcases j b with ⟨x, _⟩ | ⟨y, _⟩ | ⟨o', x, y, z⟩
      · rw [x] at e2; cases e2
      · right; left; simp [e1, y]
      · right; right; rw [x] at e2; cases e2
        cases p1 with
        | true => cases q rfl
        | false => exact ⟨o1, rfl, y, by simp [e1]⟩

theorem Ent.cons {Γ Γ' : List Ch} {c : Ch} (a : Ent Γ Γ') : Ent (c :: Γ) (c :: Γ') := fun h s => by
  obtain ⟨h1, h2, j, sc, s2⟩ := s
  obtain ⟨h2', l, s2'⟩ := a h2 s2
  obtain ⟨h', l', j'⟩ := j.comm.mono l
  exact ⟨h', l', h1, h2', j'.comm, sc, s2'⟩

/-- A part alone is turned. -/
theorem Ent.head {A B : LH → Prop} {Γ : List Ch} (a : ∀ h, A h → ∃ h', h'.Le h ∧ B h') : Ent (.pr A :: Γ) (.pr B :: Γ) := fun h s => by
  obtain ⟨h1, h2, j, sa, s2⟩ := s
  obtain ⟨h1', l, sb⟩ := a h1 sa
  obtain ⟨h', l', j'⟩ := j.mono l
  exact ⟨h', l', h1', h2, j', sb, s2⟩

theorem Ent.snd {Γ Γ' : List Ch} {c d : Ch} (a : Ent Γ (c :: d :: Γ')) : Ent Γ (c :: Γ') := a.trans (Ent.cons (Ent.drop (.refl _)))
/-- The same, read from its right side: so that what is folded is told before its parts are looked for. -/
def EntR (Γ' Γ : List Ch) : Prop := Ent Γ Γ'
theorem EntR.e {Γ Γ' : List Ch} (a : EntR Γ' Γ) : Ent Γ Γ' := a
theorem Ent.append {Γ Γ' Δ : List Ch} (a : Ent Γ Γ') : Ent (Γ ++ Δ) (Γ' ++ Δ) := fun h s => by
  obtain ⟨h1, h2, j, sa, s2⟩ := Star.append.1 s
  obtain ⟨h1', l, sb⟩ := a h1 sa
  obtain ⟨h', l', j'⟩ := j.mono l
  exact ⟨h', l', Star.append.2 ⟨h1', h2, j', sb, s2⟩⟩

section
variable {P : Program} {X : Tgt} {b : Base} {n : Nat} {dr : Bool} {ops : Array Oper} {lo : Nat} {ex : List Nat} {fl : Floats} {E : Env} {rem : List Oper} {k : List Item} {cs : List Frame} {Γ Γ' : List Ch}

theorem Ex.ent (a : Ent Γ Γ') (e : Ex P X b n E k cs Γ') : Ex P X b n E k cs Γ := e.starLe a
theorem CallsX.ent {f : FuncId} {args : Array Value} {φ : Value → List Ch → Prop} (a : Ent Γ Γ') (c : CallsX P f args Γ' φ) : CallsX P f args Γ φ := fun X cs h s e => by
  obtain ⟨h', l, s'⟩ := a h s
  exact (c X cs h' s' e).mono l
theorem Ex.front (i : Nat) {c : Ch} [e : Nth Γ i c Γ'] (x : Ex P X b n E k cs (c :: Γ')) : Ex P X b n E k cs Γ := x.perm e.perm
/-- What is known of the heap is opened: names for what there is. -/
theorem Ex.open_ {ι : Type} {Δ : ι → List Ch} {φ : ι → Prop} (o : ∀ h, Star Γ h → ∃ x, φ x ∧ Star (Δ x) h) (e : ∀ x, φ x → Ex P X b n E k cs (Δ x)) : Ex P X b n E k cs Γ := fun tmps h t s =>
  let ⟨x, hx, s'⟩ := o h s; e x hx tmps h t s'
theorem CallsX.open_ {ι : Type} {Δ : ι → List Ch} {φ' : ι → Prop} {f : FuncId} {args : Array Value} {φ : Value → List Ch → Prop} (o : ∀ h, Star Γ h → ∃ x, φ' x ∧ Star (Δ x) h) (e : ∀ x, φ' x → CallsX P f args (Δ x) φ) : CallsX P f args Γ φ := fun X cs h s r =>
  let ⟨x, hx, s'⟩ := o h s; e x hx X cs h s' r

theorem Rg.starLe (a : Ent Γ Γ') (hfl : dr = false ∨ ∀ i c, (i, c) ∈ fl → c Γ → c Γ') (e : Rg P X b n dr ops lo ex fl E rem k cs Γ') : Rg P X b n dr ops lo ex fl E rem k cs Γ := by
  intro hrem
  cases dr with
  | false =>
    intro hx R h t s
    obtain ⟨h', l, s'⟩ := a h s
    exact (e hrem hx R h' t s').mono l
  | true =>
    have hfl := hfl.resolve_left (by simp)
    intro kk hcl Xs R T h st s l lin
    obtain ⟨h', le, s'⟩ := a h s
    refine (e hrem kk hcl Xs R T h' ⟨st.tm, st.sz, st.rel, st.tk, st.cl, ?_⟩ s' l lin).mono le
    intro i o h1 h2 h3
    rcases st.q i o h1 h2 h3 with q | ⟨j, c, c0, c1, c2, c3⟩
    · exact .inl q
    · exact .inr ⟨j, c, c0, c1, hfl j c c1 c2, c3⟩

/-- All that is claimed of the heap, anew. -/
def Refl : Floats → List Ch → Prop
  | [], _ => True
  | (_, c) :: fl, Γ => c Γ ∧ Refl fl Γ
theorem Refl.mem {Γ : List Ch} : ∀ {fl : Floats}, Refl fl Γ → ∀ i c, (i, c) ∈ fl → c Γ
  | [], _, _, _, m => by cases m
  | (j, x) :: fl, r, i, c, m => by
    rcases List.mem_cons.1 m with e | e
    · cases e; exact r.1
    · exact Refl.mem r.2 i c e

theorem Rg.supE {E' : Env} (x : Rg P X b n dr ops lo ex fl E' rem k cs Γ) (s : Sup E E') : Rg P X b n dr ops lo ex fl E rem k cs Γ := x.sup fun _ t => t.sup s

theorem Rg.front (i : Nat) {c : Ch} [e : Nth Γ i c Γ'] (x : Rg P X b n dr ops lo ex fl E rem k cs (c :: Γ')) (hfl : dr = false ∨ Refl fl (c :: Γ') := by first | exact .inl rfl | exact .inr (by (repeat' first | exact trivial | refine ⟨⟨_, _, _, _, Find.mem, rfl⟩, ?_⟩ | refine ⟨⟨_, _, _, _, Find.mem, inferInstance⟩, ?_⟩ | refine ⟨⟨_, Find.mem⟩, ?_⟩))) : Rg P X b n dr ops lo ex fl E rem k cs Γ :=
  Rg.starLe (.perm e.perm) (hfl.imp id fun r i c m _ => r.mem i c m) x
theorem Rg.ent (a : Ent Γ Γ') (x : Rg P X b n dr ops lo ex fl E rem k cs Γ') (hfl : dr = false ∨ Refl fl Γ' := by first | exact .inl rfl | exact .inr (by (repeat' first | exact trivial | refine ⟨⟨_, _, _, _, Find.mem, rfl⟩, ?_⟩ | refine ⟨⟨_, _, _, _, Find.mem, inferInstance⟩, ?_⟩ | refine ⟨⟨_, Find.mem⟩, ?_⟩))) : Rg P X b n dr ops lo ex fl E rem k cs Γ :=
  Rg.starLe a (hfl.imp id fun r i c m _ => r.mem i c m) x

theorem ex_rete {φ : Value → List Ch → Prop} {fn : Func} {vs : List Value} (ret : ∀ fr v Γ' h', φ v Γ' → Retd P b.fn v Γ' fr → Star Γ' h' → Ev P X (gor fr cs) h') (hf : P.funcs[b.fn]? = some fn) (hv : resV E fn.results.toList = some vs)
    (en : Ent Γ Γ') (e : φ (packV vs) Γ') (hk : b.kind = .normal := by rfl) (hd : b.defers = [] := by rfl) (hr : b.ro = none := by rfl) : Ex P X b n E (.code .ret :: k) cs Γ :=
  Ex.ent en (ex_retc ret hf hv e hk hd hr)
theorem ex_ende {φ : Value → List Ch → Prop} {fn : Func} {vs : List Value} (ret : ∀ fr v Γ' h', φ v Γ' → Retd P b.fn v Γ' fr → Star Γ' h' → Ev P X (gor fr cs) h') (hf : P.funcs[b.fn]? = some fn) (hv : resV E fn.results.toList = some vs)
    (en : Ent Γ Γ') (e : φ (packV vs) Γ') (hk : b.kind = .normal := by rfl) (hd : b.defers = [] := by rfl) (hr : b.ro = none := by rfl) : Ex P X b n E [] cs Γ :=
  Ex.ent en (ex_endc ret hf hv e hk hd hr)
end

/-! heaps that are only read may be had twice -/
def roPart (h : LH) : LH := fun b => match h b with | some (false, o) => some (false, o) | _ => none
theorem roPart_join (h : LH) : Join (roPart h) h h := fun b => by
  unfold roPart
  cases e : h b with
  | none => left; simp
  | some x =>
    obtain ⟨p, o⟩ := x
    cases p with
    | true => left; simp
    | false => right; right; exact ⟨o, by simp, rfl, rfl⟩
def Pers (A : LH → Prop) : Prop := ∀ h, A h → A (roPart h)
theorem Star.dupP {A : LH → Prop} {Γ : List Ch} (p : Pers A) {h : LH} (s : Star (.pr A :: Γ) h) : Star (.pr A :: .pr A :: Γ) h := by
  obtain ⟨h1, h2, j, sa, s2⟩ := s
  obtain ⟨h12, x, y⟩ := (roPart_join h1).assoc j
  exact ⟨roPart h1, h12, y, p _ sa, h1, h2, x, sa, s2⟩
theorem Ent.dup {A : LH → Prop} {Γ : List Ch} (p : Pers A) : Ent (.pr A :: Γ) (.pr A :: .pr A :: Γ) := .star fun _ s => Star.dupP p s
theorem pers_pt {b : Nat} {o : Obj} : Pers (Ch.pt b false o).sat := fun h e => by
  have e' : h b = some (false, o) := e
  show roPart h b = _
  unfold roPart; rw [e']
theorem roPart_Join {h1 h2 h : LH} (j : Join h1 h2 h) : Join (roPart h1) (roPart h2) (roPart h) := fun b => by
  unfold roPart
  rcases j b with ⟨x, y⟩ | ⟨x, y⟩ | ⟨o, x, y, z⟩
  · left; simp [x, y]
  · right; left; simp [x, y]
  · right; right; exact ⟨o, by simp [x], by simp [y], by simp [z]⟩
theorem pers_star : ∀ {Γ : List Ch}, (∀ c ∈ Γ, Pers c.sat) → Pers (Star Γ)
  | [], _ => fun _ _ => trivial
  | c :: Γ, hp => fun h s => by
    obtain ⟨h1, h2, j, sa, s2⟩ := s
    exact ⟨roPart h1, roPart h2, roPart_Join j, hp c (List.mem_cons_self ..) _ sa, pers_star (fun d hd => hp d (List.mem_cons_of_mem _ hd)) _ s2⟩

end Go.Lx
