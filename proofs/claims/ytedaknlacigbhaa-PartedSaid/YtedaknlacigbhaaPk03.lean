/-
  Lemmas towards the law, proved without conditions of their own: THE LOGIC, FOURTH PART: the judgement 'Rg' for a region, in the text's order or in whichever order the tape draws, and its rules.
-/
import Derived.Test.YtedaknlacigbhaaPk02
namespace Go.Lx
open Go

/-- The order in which operations are taken: the text's ([]), or another. -/
def ix (ex : List Nat) (j : Nat) : Nat := match ex with
  | [] => j
  | x :: l => (x :: l).getD j 0

abbrev NotYet (_ : List Nat) (_ : Nat) : Prop := True

def Taken (ops : Array Oper) (lo : Nat) (ex : List Nat) (i : Nat) : Prop := ∃ j, j < lo ∧ j < ops.size ∧ ix ex j = i

def remOf (ops : Array Oper) (ex : List Nat) (lo : Nat) : List Oper := match ex with
  | [] => ops.toList.drop lo
  | x :: l => ((x :: l).drop lo).filterMap fun i => ops[i]?

structure Ord (ops : Array Oper) (ex : List Nat) : Prop where
  len : ex = [] ∨ ex.length = ops.size
  lt : ∀ j, j < ops.size → ix ex j < ops.size
  inj : ∀ j j', j < ops.size → j' < ops.size → ix ex j = ix ex j' → j = j'
  top : ∀ j o a, j < ops.size → ops[ix ex j]? = some o → a ∈ depsOf o → ∃ j', j' < j ∧ ix ex j' = a
  surj : ∀ i, i < ops.size → ∃ j, j < ops.size ∧ ix ex j = i

def ordOk (ops : Array Oper) (ex : List Nat) : Bool :=
  ex.length == ops.size && !ex.isEmpty && ex.all (fun i => decide (i < ops.size)) && (List.range ops.size).all (fun i => ex.contains i) &&
  (List.range ops.size).all (fun j => (List.range ops.size).all fun j' => j == j' || ex.getD j 0 != ex.getD j' 0) &&
  (List.range ops.size).all fun j => match ops[ex.getD j 0]? with
    | none => false
    | some o => (depsOf o).all fun a => (ex.take j).contains a

theorem ix_getD {ex : List Nat} (h : ex ≠ []) (j : Nat) : ix ex j = ex.getD j 0 := by
  cases ex with
  | nil => exact absurd rfl h
  | cons x l => rfl

theorem ord_nil {n : Nat} {ops : Array Oper} (k : OkR n ops) : Ord ops [] where
  len := .inl rfl
  lt := fun _ h => h
  inj := fun _ _ _ _ h => h
  top := fun j o a _ ho ha => ⟨a, k.low j o ho a ha, rfl⟩
  surj := fun i h => ⟨i, h, rfl⟩

theorem ord_of {ops : Array Oper} {ex : List Nat} (h : ordOk ops ex = true) : Ord ops ex := by
  unfold ordOk at h
  simp only [Bool.and_eq_true, beq_iff_eq, Bool.not_eq_true', List.isEmpty_eq_false_iff] at h
  obtain ⟨⟨⟨⟨⟨h1, h2⟩, h3⟩, h4⟩, h5⟩, h6⟩ := h
  have hix := ix_getD h2
  have hget : ∀ j (hj : j < ops.size), ix ex j = ex[j]'(by omega) := fun j hj => by rw [hix, List.getD_eq_getElem?_getD, List.getElem?_eq_getElem (by omega)]; rfl
  refine ⟨.inr h1, fun j hj => ?_, fun j j' hj hj' he => ?_, fun j o a hj ho ha => ?_, fun i hi => ?_⟩
  · rw [hget j hj]; exact of_decide_eq_true (List.all_eq_true.1 h3 _ (List.getElem_mem _))
  · have := List.all_eq_true.1 (List.all_eq_true.1 h5 j (List.mem_range.2 hj)) j' (List.mem_range.2 hj')
    rw [← hix, ← hix] at this
    simpa [he] using this
  · have := List.all_eq_true.1 h6 j (List.mem_range.2 hj)
    rw [← hix, ho] at this
    have := List.contains_iff_mem.1 (List.all_eq_true.1 this a ha)
    obtain ⟨j', hj', e⟩ := List.getElem_of_mem this
    have hl := List.length_take_le j ex
    have hl2 : j' < j := by rw [List.length_take] at hj'; omega
    refine ⟨j', hl2, ?_⟩
    rw [hget j' (by omega), ← e, List.getElem_take]
  · have := List.contains_iff_mem.1 (List.all_eq_true.1 h4 i (List.mem_range.2 hi))
    obtain ⟨j, hj, e⟩ := List.getElem_of_mem this
    exact ⟨j, by omega, by rw [hget j (by omega), e]⟩

theorem remOf_cons {ops : Array Oper} {ex : List Nat} (od : Ord ops ex) {lo : Nat} {o : Oper} {rem : List Oper} (h : remOf ops ex lo = o :: rem) : lo < ops.size ∧ ops[ix ex lo]? = some o ∧ remOf ops ex (lo + 1) = rem := by
  cases ex with
  | nil =>
    have h1 : ops.toList[lo]? = some o := by
      have := congrArg List.head? h
      simpa [remOf, List.head?_drop] using this
    have h2 : ops[lo]? = some o := by simpa using h1
    refine ⟨lt_of_get? h2, h2, ?_⟩
    have := congrArg List.tail h
    simpa [remOf] using this
  | cons x l =>
    have hlen := od.len.resolve_left (by simp)
    unfold remOf at h ⊢
    dsimp only at h ⊢
    have hlo : lo < (x :: l).length := by
      rcases Nat.lt_or_ge lo (x :: l).length with h1 | h1
      · exact h1
      · rw [List.drop_eq_nil_of_le h1] at h; cases h
    have hd := List.drop_eq_getElem_cons hlo
    rw [hd] at h
    have hv := od.lt lo (by omega)
    have hix : ix (x :: l) lo = (x :: l)[lo] := by rw [ix_getD (by simp), List.getD_eq_getElem?_getD, List.getElem?_eq_getElem hlo]; rfl
    rw [hix] at hv
    rw [List.filterMap_cons, Array.getElem?_eq_getElem hv] at h
    simp only [List.cons.injEq] at h
    refine ⟨by omega, ?_, h.2⟩
    rw [hix, Array.getElem?_eq_getElem hv, h.1]

theorem remOf_nil {ops : Array Oper} {ex : List Nat} (od : Ord ops ex) {lo : Nat} (h : remOf ops ex lo = []) : ops.size ≤ lo := by
  cases ex with
  | nil => simpa [remOf] using h
  | cons x l =>
    have hlen := od.len.resolve_left (by simp)
    unfold remOf at h
    dsimp only at h
    rcases Nat.lt_or_ge lo ops.size with h1 | h1
    · have hlo : lo < (x :: l).length := by omega
      have hv := od.lt lo h1
      have hix : ix (x :: l) lo = (x :: l)[lo] := by rw [ix_getD (by simp), List.getD_eq_getElem?_getD, List.getElem?_eq_getElem hlo]; rfl
      rw [hix] at hv
      rw [List.drop_eq_getElem_cons hlo, List.filterMap_cons, Array.getElem?_eq_getElem hv] at h
      cases h
    · exact h1

theorem Ord.closed {ops : Array Oper} {ex : List Nat} (od : Ord ops ex) (lo : Nat) : ∀ i o, Taken ops lo ex i → ops[i]? = some o → ∀ a ∈ depsOf o, Taken ops lo ex a := by
  rintro _ o ⟨j, h1, h2, rfl⟩ ho a ha
  obtain ⟨j', h3, h4⟩ := od.top j o a h2 ho ha
  exact ⟨j', by omega, by omega, h4⟩

theorem Ord.ready {ops : Array Oper} {ex : List Nat} (od : Ord ops ex) {lo : Nat} (hlt : lo < ops.size) {o : Oper} (ho : ops[ix ex lo]? = some o) : ∀ a ∈ depsOf o, Taken ops lo ex a := by
  intro a ha
  obtain ⟨j', h3, h4⟩ := od.top lo o a hlt ho ha
  exact ⟨j', h3, by omega, h4⟩

theorem Ord.notTaken {ops : Array Oper} {ex : List Nat} (od : Ord ops ex) {lo : Nat} (hlt : lo < ops.size) : ¬ Taken ops lo ex (ix ex lo) := by
  rintro ⟨j, h1, h2, h3⟩
  have := od.inj j lo h2 hlt h3
  omega

theorem Ord.all {ops : Array Oper} {ex : List Nat} (od : Ord ops ex) {lo : Nat} (h : ops.size ≤ lo) {i : Nat} (hi : i < ops.size) : Taken ops lo ex i := by
  obtain ⟨j, h1, h2⟩ := od.surj i hi
  exact ⟨j, by omega, h1, h2⟩

def GuardOK (ops : Array Oper) (o : Oper) (E : Env) : Prop :=
  match o.guard with
  | none => True
  | some (g, w) => ∃ s, dstOf ops g = some s ∧ Env.get E s = some (.bool w)

/-- The operation yields v and turns no memory, from whatever heap of Γ, where its operands are as E says. -/
def QuietE (P : Program) (o : Oper) (E : Env) (Γ : List Ch) (v : Value) : Prop :=
  ∀ (ρ : Operand → Value) (h : LH), (∀ x ∈ o.op.operands, ∀ u, Env.val E x = some u → ρ x = u) → Star Γ h → wpE P (execOp ρ o) (fun nx h' => nxv nx = some v ∧ h' = h) h

/-- The operation is carried out, in the machine, from whatever heap of Γ: φ says of what it yields and of the heap. -/
def Does (P : Program) (X : Tgt) (o : Oper) (E : Env) (Γ : List Ch) (φ : Value → List Ch → Prop) : Prop :=
  ∀ (b : Base) (R : Array Value) (ops : Array Oper) (i : Nat) (l : List Nat) (k : List Item) (cs : List Frame) (h : LH), ops[i]? = some o → Region.wanted o (yielded ops R) = true →
    (∀ x ∈ o.op.operands, ∀ u, Env.val E x = some u → evT R x = u) → Star Γ h →
    (∀ v Γ' h', φ v Γ' → Star Γ' h' → Ev P X (gor (b.fr (putT R o.dst v) (.inRegion ops l :: k)) cs) h') →
    Ev P X (gor (b.fr R (.inRegion ops (i :: l) :: k)) cs) h

theorem does_of_wp {P : Program} {X : Tgt} {o : Oper} {E : Env} {Γ : List Ch} {φ : Value → List Ch → Prop} (hd : noDefer o.op = true)
    (w : ∀ (ρ : Operand → Value) (h : LH), (∀ x ∈ o.op.operands, ∀ u, Env.val E x = some u → ρ x = u) → Star Γ h →
      wpE P (execOp ρ o) (fun nx h' => ∃ v Γ', nxv nx = some v ∧ φ v Γ' ∧ Star Γ' h') h) : Does P X o E Γ φ := by
  intro b R ops i l k cs h ho hw ha s e
  refine ev_op ho hw hd (wpE_mono _ (w _ h ha s) ?_)
  rintro nx h' ⟨v, Γ', hv, hφ, hs⟩
  have hf := finish_fr b R ops i l k v
  rw [ho] at hf
  simp only [Option.bind_some] at hf
  have := e v Γ' h' hφ hs
  rw [← hf] at this
  cases nx with
  | value u => cases hv; exact this
  | skip => cases hv; exact this
  | _ => cases hv

theorem wanted_of {ops : Array Oper} {o : Oper} {n : Nat} {E : Env} {T : Array Value} (t : Tms n E T) (g : GuardOK ops o E) : Region.wanted o (yielded ops T) = true := by
  unfold GuardOK at g
  unfold Region.wanted
  split
  · rfl
  · rename_i j w hg
    rw [hg] at g
    obtain ⟨s, h1, h2⟩ := g
    have h3 := t.get _ _ h2
    unfold dstOf at h1
    unfold yielded
    rw [h1]
    simp [h3]

theorem evT_of {n : Nat} {E : Env} {T : Array Value} (t : Tms n E T) {x : Operand} {v : Value} (h : Env.val E x = some v) : evT T x = v := by
  cases x with
  | tmp s => have := t.get s v h; simp [evT, Array.getD_eq_getD_getElem?, this]
  | const c => cases h; rfl
  | global g => cases h; rfl
  | func f => cases h; rfl

/-- An operation that calls, and of the heap leaves what is known of it. -/
def Calm (P : Program) (X : Tgt) (ops : Array Oper) (o : Oper) (T : Array Value) (Γ : List Ch) (v : Value) : Prop :=
  Region.wanted o (yielded ops T) = true ∧ ∀ (b : Base) (R : Array Value) (i : Nat) (l : List Nat) (k : List Item) (cs : List Frame) (h : LH), ops[i]? = some o →
    (∀ x ∈ o.op.operands, evT R x = evT T x) → Region.wanted o (yielded ops R) = true → Star Γ h →
    (∀ h', Star Γ h' → Ev P X (gor (b.fr (putT R o.dst v) (.inRegion ops l :: k)) cs) h') → Ev P X (gor (b.fr R (.inRegion ops (i :: l) :: k)) cs) h

/-- An operation that has been taken: what it yields lies in T, whenever it runs. -/
def QuietT (P : Program) (X : Tgt) (ops : Array Oper) (o : Oper) (T : Array Value) (Γ : List Ch) : Prop :=
  ∃ v, (∀ d, o.dst = some d → T[d]? = some v) ∧ noDefer o.op = true ∧
    ((Region.wanted o (yielded ops T) = true ∧ ∀ (ρ : Operand → Value) (h : LH), (∀ x ∈ o.op.operands, ρ x = evT T x) → Star Γ h → wpE P (execOp ρ o) (fun nx h' => nxv nx = some v ∧ h' = h) h) ∨
     (Region.wanted o (yielded ops T) = false ∧ v = undef) ∨ Calm P X ops o T Γ v)

theorem wanted_congr {ops : Array Oper} {o : Oper} {T T' : Array Value} (h : ∀ s ∈ readsOf ops o, T[s]? = T'[s]?) : Region.wanted o (yielded ops T) = Region.wanted o (yielded ops T') := by
  unfold Region.wanted
  split
  · rfl
  · rename_i j w hg
    have : yielded ops T j = yielded ops T' j := by
      unfold yielded
      cases hd : (ops[j]?).bind (·.dst) with
      | none => rfl
      | some s =>
        have := h s (by unfold readsOf; rw [hg]; simp [dstOf, hd])
        simp [this]
    rw [this]

theorem evT_congr {o : Oper} {ops : Array Oper} {T T' : Array Value} (h : ∀ s ∈ readsOf ops o, T[s]? = T'[s]?) : ∀ x ∈ o.op.operands, evT T x = evT T' x := by
  intro x hx
  cases x with
  | tmp s =>
    have := h s (by unfold readsOf tmpsIn; exact List.mem_append_left _ (List.mem_filterMap.2 ⟨_, Array.mem_toList_iff.2 hx, rfl⟩))
    simp [evT, Array.getD_eq_getD_getElem?, this]
  | const c => rfl
  | global g => rfl
  | func f => rfl

theorem QuietT.congr {P : Program} {X : Tgt} {ops : Array Oper} {o : Oper} {T T' : Array Value} {Γ : List Ch} (q : QuietT P X ops o T Γ) (h : ∀ s ∈ readsOf ops o, T[s]? = T'[s]?)
    (hd : ∀ d, o.dst = some d → T[d]? = T'[d]?) : QuietT P X ops o T' Γ := by
  obtain ⟨v, q1, q2, q3⟩ := q
  refine ⟨v, fun d e => (hd d e) ▸ q1 d e, q2, ?_⟩
  unfold Calm at q3 ⊢
  rw [wanted_congr h] at q3
  rcases q3 with ⟨a, c⟩ | ⟨a, c⟩ | ⟨a, c⟩
  · exact .inl ⟨a, fun ρ hh hρ s => c ρ hh (fun x hx => (hρ x hx).trans (evT_congr h x hx).symm) s⟩
  · exact .inr (.inl ⟨a, c⟩)
  · exact .inr (.inr ⟨a, fun b R i l k cs hh ho hr hw s e => c b R i l k cs hh ho (fun x hx => (hr x hx).trans (evT_congr h x hx).symm) hw s e⟩)

abbrev Floats := List (Nat × (List Ch → Prop))

structure RdSt (P : Program) (X : Tgt) (n : Nat) (ops : Array Oper) (lo : Nat) (ex : List Nat) (fl : Floats) (E : Env) (Γ : List Ch) (Xs : Nat → Bool) (R T : Array Value) : Prop where
  tm : Tms n E T
  sz : R.size = n
  rel : ∀ s : Nat, R[s]? = T[s]? ∨ ∃ i, Taken ops lo ex i ∧ Xs i = false ∧ dstOf ops i = some s
  tk : ∀ i, Xs i = true → Taken ops lo ex i
  cl : ∀ i o, Xs i = true → ops[i]? = some o → ∀ a ∈ depsOf o, Xs a = true
  q : ∀ i o, Taken ops lo ex i → ops[i]? = some o → Xs i = false →
    (∀ Δ, QuietT P X ops o T Δ) ∨ ∃ j c, ix ex j = i ∧ (j, c) ∈ fl ∧ c Γ ∧ ∀ Δ, c Δ → QuietT P X ops o T Δ

def Rg (P : Program) (X : Tgt) (b : Base) (n : Nat) (dr : Bool) (ops : Array Oper) (lo : Nat) (ex : List Nat) (fl : Floats) (E : Env) (rem : List Oper) (k : List Item) (cs : List Frame) (Γ : List Ch) : Prop :=
  remOf ops ex lo = rem →
  match dr with
  | false => ex = [] → ∀ R h, Tms n E R → Star Γ h → Ev P X (gor (b.fr R (.inRegion ops (List.range' lo (ops.size - lo)) :: k)) cs) h
  | true => OkR n ops → Ord ops ex →
      ∀ Xs R T h, RdSt P X n ops lo ex fl E Γ Xs R T → Star Γ h → ∀ l, Lin ops Xs l → Ev P X (gor (b.fr R (.inRegion ops l :: k)) cs) h

theorem Rg.sup {P : Program} {X : Tgt} {b : Base} {n : Nat} {dr : Bool} {ops : Array Oper} {lo : Nat} {ex : List Nat} {fl : Floats} {E E' : Env} {rem : List Oper} {k : List Item} {cs : List Frame} {Γ : List Ch}
    (s : ∀ T, Tms n E T → Tms n E' T) (e : Rg P X b n dr ops lo ex fl E' rem k cs Γ) : Rg P X b n dr ops lo ex fl E rem k cs Γ := by
  intro hrem
  cases dr with
  | false => exact fun hx R h t st => e hrem hx R h (s R t) st
  | true => exact fun kk od Xs R T h st => e hrem kk od Xs R T h ⟨s T st.tm, st.sz, st.rel, st.tk, st.cl, st.q⟩

theorem tms_cons {n : Nat} {E : Env} {s : Nat} {v : Value} (h : Env.get E s = some v) (T : Array Value) (t : Tms n E T) : Tms n ((s, v) :: E) T :=
  ⟨t.size, fun i u e => by
    rw [Env.get_cons] at e
    split at e
    · subst_vars; cases e; exact t.get _ _ h
    · exact t.get _ _ e⟩

/-- A case on a truth value in a slot. -/
theorem rg_case {P : Program} {X : Tgt} {b : Base} {n : Nat} {dr : Bool} {ops : Array Oper} {lo : Nat} {ex : List Nat} {fl : Floats} {E : Env} {rem : List Oper} {k : List Item} {cs : List Frame} {Γ : List Ch}
    (s : Nat) {t : Bool} (hs : Env.get E s = some (.bool t)) (e1 : t = true → Rg P X b n dr ops lo ex fl ((s, .bool true) :: E) rem k cs Γ) (e2 : t = false → Rg P X b n dr ops lo ex fl ((s, .bool false) :: E) rem k cs Γ) :
    Rg P X b n dr ops lo ex fl E rem k cs Γ := by
  cases t with
  | true => exact (e1 rfl).sup (tms_cons hs)
  | false => exact (e2 rfl).sup (tms_cons hs)

/-- A case on the guard of the next operation. -/
theorem rg_caseG {P : Program} {X : Tgt} {b : Base} {n : Nat} {dr : Bool} {ops : Array Oper} {lo : Nat} {ex : List Nat} {fl : Floats} {E : Env} {rem : List Oper} {k : List Item} {cs : List Frame} {Γ : List Ch}
    {d : Option Tmp} {op : Op} {T : TypeId} {pos : String} {af : Array Edge} {g s : Nat} {w t : Bool} (_ : dstOf ops g = some s) (hs : Env.get E s = some (.bool t))
    (e1 : t = true → Rg P X b n dr ops lo ex fl ((s, .bool true) :: E) (⟨d, op, T, pos, af, some (g, w)⟩ :: rem) k cs Γ) (e2 : t = false → Rg P X b n dr ops lo ex fl ((s, .bool false) :: E) (⟨d, op, T, pos, af, some (g, w)⟩ :: rem) k cs Γ) :
    Rg P X b n dr ops lo ex fl E (⟨d, op, T, pos, af, some (g, w)⟩ :: rem) k cs Γ := rg_case s hs e1 e2

section
variable {P : Program} {X : Tgt} {b : Base} {n : Nat} {dr : Bool} {ops : Array Oper} {lo : Nat} {ex : List Nat} {fl : Floats} {E : Env} {rem : List Oper} {k : List Item} {cs : List Frame} {Γ : List Ch}

theorem rg_start_s {id : Nat} {l : List Oper} (e : Rg P X b n false ⟨l⟩ 0 [] [] E l k cs Γ) : Ex P X b n E (.code (.region id ⟨l⟩ false) :: k) cs Γ := fun R h t s => by
  have := e rfl rfl R h t s
  refine this.silent fun w => ?_
  simp [stepG, stepG.exec, gor, Base.fr, List.range_eq_range']

class Mixed (P : Program) : Prop where
  eq : P.follows .mixedOrders = true

/-- All that has not been taken comes behind operation lo. -/
def chkLast (ops : Array Oper) (lo : Nat) (ex : List Nat) : Bool :=
  (List.range ops.size).all fun j => j ≤ lo || isAnc ops (ix ex j) (ix ex lo)

/-- Operations that turn no memory. -/
def quietOp : Op → Bool
  | .move _ | .nilCheck _ | .fieldAddr .. | .load .. | .extract .. | .assign _ | .binOp .. | .unOp .. | .lookup .. | .pick .. | .indexAddr .. | .build .. | .field .. | .index .. | .convert .. | .makeInterface .. => true
  | .call c => match c.callee with
    | .builtin .len => true
    | _ => false
  | _ => false

/-- Each operation that may turn memory has all that stand behind it come behind it. -/
def loudChk (ops : Array Oper) : Bool :=
  (List.range ops.size).all fun j => match ops[j]? with
    | some o => quietOp o.op || chkLast ops j []
    | none => true

theorem rg_start_d [m : Mixed P] {id : Nat} {l : List Oper} (hok : okR n ⟨l⟩ = true) (_ : loudChk ⟨l⟩ = true) (e : Rg P X b n true ⟨l⟩ 0 [] [] E l k cs Γ) : Ex P X b n E (.code (.region id ⟨l⟩ true) :: k) cs Γ := fun R h t s => by
  refine .one fun w hw => ⟨b.fr R (.inRegion ⟨l⟩ (Region.schedule true ⟨l⟩ (w.tape w.drawn (.order b.fn id))) :: k), cs, { w with drawn := w.drawn + 1 }, h, #[], ?_, upd_draw hw, by simp, ?_⟩
  · simp [stepG, stepG.exec, gor, Base.fr, choose, Sem.run, Question.forced, Question.cut, m.eq]
  · refine e rfl (okR_iff hok) (ord_nil (okR_iff hok)) (fun _ => false) R R h ⟨t, t.size, fun s => .inl rfl, ?_, ?_, ?_⟩ s _ (lin_schedule _)
    · intro i hi; cases hi
    · intro i o hi; cases hi
    · rintro i o ⟨j, hj, _⟩; exact absurd hj (Nat.not_lt_zero _)

/-- The same, operations being taken in another order than the text's. -/
def permL (l : List Oper) : List Nat → List Oper
  | [] => []
  | i :: ex => match l[i]? with
    | some o => o :: permL l ex
    | none => permL l ex

theorem permL_eq (l : List Oper) : ∀ ex : List Nat, permL l ex = ex.filterMap fun i => (⟨l⟩ : Array Oper)[i]?
  | [] => rfl
  | i :: ex => by
    have ih := permL_eq l ex
    rw [permL, List.filterMap_cons]
    simp only [List.getElem?_toArray] at ih ⊢
    cases l[i]? with
    | none => exact ih
    | some o => simp only [ih]

theorem rg_start_p [m : Mixed P] (ex : List Nat) {id : Nat} {l l' : List Oper} (hok : okR n ⟨l⟩ = true) (hex : ordOk ⟨l⟩ ex = true) (hl : permL l ex = l') (e : Rg P X b n true ⟨l⟩ 0 ex [] E l' k cs Γ) : Ex P X b n E (.code (.region id ⟨l⟩ true) :: k) cs Γ := fun R h t s => by
  refine .one fun w hw => ⟨b.fr R (.inRegion ⟨l⟩ (Region.schedule true ⟨l⟩ (w.tape w.drawn (.order b.fn id))) :: k), cs, { w with drawn := w.drawn + 1 }, h, #[], ?_, upd_draw hw, by simp, ?_⟩
  · simp [stepG, stepG.exec, gor, Base.fr, choose, Sem.run, Question.forced, Question.cut, m.eq]
  · have hrem : remOf ⟨l⟩ ex 0 = l' := by
      rw [← hl, permL_eq]
      cases ex with
      | nil => unfold ordOk at hex; simp at hex
      | cons x ex => rfl
    refine e hrem (okR_iff hok) (ord_of hex) (fun _ => false) R R h ⟨t, t.size, fun s => .inl rfl, ?_, ?_, ?_⟩ s _ (lin_schedule _)
    · intro i hi; cases hi
    · intro i o hi; cases hi
    · rintro i o ⟨j, hj, _⟩; exact absurd hj (Nat.not_lt_zero _)

/-- One step of a region that draws: an operation that has been taken runs. -/
theorem quiet_step (kk : OkR n ops) {Xs : Nat → Bool} {R T : Array Value} {h : LH} (st : RdSt P X n ops lo ex fl E Γ Xs R T) (s : Star Γ h) {i : Nat} {l : List Nat} (hx : Xs i = false) (hr : Ready ops Xs i) (ht : Taken ops lo ex i)
    (e : ∀ R' h', RdSt P X n ops lo ex fl E Γ (addX Xs i) R' T → Star Γ h' → Ev P X (gor (b.fr R' (.inRegion ops l :: k)) cs) h') : Ev P X (gor (b.fr R (.inRegion ops (i :: l) :: k)) cs) h := by
  obtain ⟨o, ho, hd⟩ := hr
  have hanc := anc_closed kk (S := fun i => Xs i = true) (fun i o hi ho => st.cl i o hi ho)
  have hread : ∀ s ∈ readsOf ops o, R[s]? = T[s]? := by
    intro s hs
    rcases st.rel s with h1 | ⟨j, _, h2, h3⟩
    · exact h1
    · have := hanc i o ho hd j (lt_of_dst h3) (kk.use i o s j ho hs h3)
      rw [h2] at this; cases this
  have hq : QuietT P X ops o T Γ := by
    rcases st.q i o ht ho hx with h1 | ⟨_, c, _, _, h2, h3⟩
    · exact h1 Γ
    · exact h3 Γ h2
  obtain ⟨v, q1, q2, q3⟩ := hq
  have next : ∀ h', Star Γ h' → Ev P X (gor (b.fr (putT R o.dst v) (.inRegion ops l :: k)) cs) h' := by
    intro h1 s1
    refine e _ h1 ⟨st.tm, ?_, ?_, ?_, ?_, ?_⟩ s1
    · unfold putT; split
      · rw [Array.size_setIfInBounds]; exact st.sz
      · exact st.sz
    · intro s
      by_cases hs : dstOf ops i = some s
      · left
        have hds : o.dst = some s := by unfold dstOf at hs; rw [ho] at hs; exact hs
        rw [q1 s hds]
        unfold putT; rw [hds]
        exact Array.getElem?_setIfInBounds_self_of_lt (by rw [st.sz]; exact kk.dst i o s ho hds)
      · have hR : (putT R o.dst v)[s]? = R[s]? := by
          unfold putT
          split
          · rename_i d hd'
            refine Array.getElem?_setIfInBounds_ne fun e => hs ?_
            subst e; unfold dstOf; rw [ho]; exact hd'
          · rfl
        rcases st.rel s with h1 | ⟨j, h1, h2, h3⟩
        · left; rw [hR]; exact h1
        · right
          refine ⟨j, h1, ?_, h3⟩
          unfold addX
          split
          · rename_i hj; subst hj; exact absurd h3 hs
          · exact h2
    · intro j hj
      unfold addX at hj
      split at hj
      · rename_i hj'; subst hj'; exact ht
      · exact st.tk j hj
    · intro j o' hj ho' a ha
      unfold addX at hj ⊢
      split at hj
      · rename_i hj'; subst hj'; rw [ho] at ho'; cases ho'
        split
        · rfl
        · exact hd a ha
      · split
        · rfl
        · exact st.cl j o' hj ho' a ha
    · intro j o' hj ho' hxj
      unfold addX at hxj
      split at hxj
      · cases hxj
      · exact st.q j o' hj ho' hxj
  rcases q3 with ⟨a, c⟩ | ⟨a, c⟩ | ⟨a, c⟩
  · have hw : Region.wanted o (yielded ops R) = true := by rw [wanted_congr hread]; exact a
    refine ev_op ho hw q2 (wpE_mono _ (c (evT R) h (fun x hx => evT_congr hread x hx) s) ?_)
    rintro nx h' ⟨hv, rfl⟩
    have hf := finish_fr b R ops i l k v
    rw [ho] at hf
    simp only [Option.bind_some] at hf
    replace next := next _ s
    rw [← hf] at next
    cases nx with
    | value u => cases hv; exact next
    | skip => cases hv; exact next
    | _ => cases hv
  · have hw : Region.wanted o (yielded ops R) = false := by rw [wanted_congr hread]; exact a
    subst c
    exact ev_off ho hw (next _ s)
  · have hw : Region.wanted o (yielded ops R) = true := by rw [wanted_congr hread]; exact a
    exact c b R i l k cs h ho (fun x hx => evT_congr hread x hx) hw s next

theorem rg_done (e : Ex P X b n E k cs Γ) : Rg P X b n dr ops lo ex fl E [] k cs Γ := by
  intro hrem
  cases dr with
  | false =>
    intro hex R h t s
    subst hex
    have : ops.size - lo = 0 := by have : ops.size ≤ lo := by simpa [remOf] using hrem
                                   omega
    rw [this]
    exact (e R h t s).silent fun w => by simp [stepG, stepG.exec, gor, Base.fr]
  | true =>
    intro kk od Xs R T h st s l lin
    have hlo := remOf_nil od hrem
    induction lin generalizing R h with
    | nil hn =>
      have hall := all_of_stuck kk hn
      have hRT : R = T := by
        apply Array.ext_getElem?
        intro i
        rcases st.rel i with h1 | ⟨j, _, h2, h3⟩
        · exact h1
        · rw [hall j (lt_of_dst h3)] at h2; cases h2
      subst hRT
      exact (e R h st.tm s).silent fun w => by simp [stepG, stepG.exec, gor, Base.fr]
    | @cons Xs i l hx hr hl ih =>
      have hi : i < ops.size := by obtain ⟨o, ho, _⟩ := hr; exact lt_of_get? ho
      exact quiet_step kk st s hx hr (od.all hlo hi) fun R' h' st' s' => ih R' h' st' s'

theorem range'_head {lo m : Nat} (h : lo < m) : List.range' lo (m - lo) = lo :: List.range' (lo + 1) (m - (lo + 1)) := by
  have : m - lo = (m - (lo + 1)) + 1 := by omega
  rw [this, List.range'_succ]

theorem taken_succ {i : Nat} (hlt : lo < ops.size) : Taken ops (lo + 1) ex i ↔ Taken ops lo ex i ∨ i = ix ex lo := by
  constructor
  · rintro ⟨j, h1, h2, h3⟩
    rcases Nat.lt_or_ge j lo with h | h
    · exact .inl ⟨j, h, h2, h3⟩
    · have : j = lo := by omega
      subst this; exact .inr h3.symm
  · rintro (⟨j, h1, h2, h3⟩ | h)
    · exact ⟨j, by omega, h2, h3⟩
    · exact ⟨lo, by omega, hlt, h.symm⟩

theorem remOf_static {o : Oper} (h : remOf ops [] lo = o :: rem) : ops[lo]? = some o ∧ remOf ops [] (lo + 1) = rem := by
  have h1 : ops.toList[lo]? = some o := by
    have := congrArg List.head? h
    simpa [remOf, List.head?_drop] using this
  refine ⟨by simpa using h1, ?_⟩
  have := congrArg List.tail h
  simpa [remOf] using this

/-- The general rule for an operation that turns no memory: what it asks, said of all slots. -/
theorem rg_quiet_gen {o : Oper} {d : Nat} {v : Value} (fl' : Floats) (hd : o.dst = some d) (hdn : d < n) (hex : NotYet ex lo)
    (hfl : ∀ x ∈ fl, x ∈ fl') (hnd : noDefer o.op = true)
    (hT : dr = true → ∀ T, Tms n E T → (∀ s ∈ readsOf ops o, s ≠ d) → (∀ Δ, QuietT P X ops o (T.setIfInBounds d v) Δ) ∨ ∃ c : List Ch → Prop, (lo, c) ∈ fl' ∧ c Γ ∧ ∀ Δ, c Δ → QuietT P X ops o (T.setIfInBounds d v) Δ)
    (hs : dr = false → ∀ R h, Tms n E R → Star Γ h → (Region.wanted o (yielded ops R) = true ∧ wpE P (execOp (evT R) o) (fun nx h' => nxv nx = some v ∧ h' = h) h) ∨ (Region.wanted o (yielded ops R) = false ∧ v = undef))
    (e : Rg P X b n dr ops (lo + 1) ex fl' ((d, v) :: E) rem k cs Γ) : Rg P X b n dr ops lo ex fl E (o :: rem) k cs Γ := by
  intro hrem
  cases dr with
  | false =>
    intro hx0 R h t s
    subst hx0
    obtain ⟨ho, hrem'⟩ := remOf_static hrem
    have hlt := lt_of_get? ho
    rw [range'_head hlt]
    have next := e hrem' rfl (R.setIfInBounds d v) h (t.set hdn v) s
    rcases hs rfl R h t s with ⟨hw, w⟩ | ⟨hw, hv⟩
    · refine ev_op ho hw hnd (wpE_mono _ w ?_)
      rintro nx h' ⟨hv, rfl⟩
      have hf := finish_fr b R ops lo (List.range' (lo + 1) (ops.size - (lo + 1))) k v
      rw [ho] at hf
      simp only [Option.bind_some, hd, putT] at hf
      rw [← hf] at next
      cases nx with
      | value u => cases hv; exact next
      | skip => cases hv; exact next
      | _ => cases hv
    · subst hv
      exact ev_off ho hw (by rw [hd]; exact next)
  | true =>
    intro kk od Xs R T h st s l lin
    obtain ⟨hlt, ho, hrem'⟩ := remOf_cons od hrem
    have hnt := od.notTaken hlt
    have hcl := od.closed lo
    have hdl : dstOf ops (ix ex lo) = some d := by unfold dstOf; rw [ho]; exact hd
    have hltx := od.lt lo hlt
    have hancT := anc_closed kk (S := Taken ops lo ex) (fun i o hi ho => hcl i o hi ho)
    have hloSelf : ∀ s ∈ readsOf ops o, s ≠ d := by
      intro s hs e
      subst e
      have h1 := kk.use (ix ex lo) o s (ix ex lo) ho hs hdl
      have := anc_closed kk (S := fun i => i < ix ex lo) (fun i o' hi ho' a ha => Nat.lt_trans (kk.low i o' ho' a ha) hi) (ix ex lo) o ho (fun a ha => kk.low _ o ho a ha) (ix ex lo) hltx h1
      omega
    refine e hrem' kk od Xs R (T.setIfInBounds d v) h ⟨st.tm.set hdn v, st.sz, ?_, fun i hi => (taken_succ hlt).2 (.inl (st.tk i hi)), st.cl, ?_⟩ s l lin
    · intro s
      by_cases hsd : s = d
      · subst hsd
        right
        refine ⟨ix ex lo, (taken_succ hlt).2 (.inr rfl), ?_, hdl⟩
        cases hx : Xs (ix ex lo) with
        | false => rfl
        | true => exact absurd (st.tk _ hx) hnt
      · rw [Array.getElem?_setIfInBounds_ne (fun e => hsd e.symm)]
        rcases st.rel s with h1 | ⟨j, h1, h2, h3⟩
        · exact .inl h1
        · exact .inr ⟨j, (taken_succ hlt).2 (.inl h1), h2, h3⟩
    · intro i o' hi ho' hx
      rcases (taken_succ hlt).1 hi with h1 | h1
      · have hr : ∀ s ∈ readsOf ops o', T[s]? = (T.setIfInBounds d v)[s]? := by
          intro s hs
          rw [Array.getElem?_setIfInBounds_ne]
          intro e; subst e
          exact hnt (hancT i o' ho' (hcl i o' h1 ho') (ix ex lo) hltx (kk.use i o' _ (ix ex lo) ho' hs hdl))
        have hdd : ∀ d', o'.dst = some d' → T[d']? = (T.setIfInBounds d v)[d']? := by
          intro d' hd'
          rw [Array.getElem?_setIfInBounds_ne]
          intro e; subst e
          have : dstOf ops i = some d := by unfold dstOf; rw [ho']; exact hd'
          have := kk.uniq i (ix ex lo) d this hdl
          subst this; exact hnt h1
        rcases st.q i o' h1 ho' hx with q | ⟨j, c, c0, c1, c2, c3⟩
        · exact .inl fun Δ => (q Δ).congr hr hdd
        · exact .inr ⟨j, c, c0, hfl _ c1, c2, fun Δ hc => (c3 Δ hc).congr hr hdd⟩
      · subst h1
        rw [ho] at ho'; cases ho'
        rcases hT rfl T st.tm hloSelf with h2 | ⟨c, c1, c2, c3⟩
        · exact .inl h2
        · exact .inr ⟨lo, c, rfl, c1, c2, c3⟩

theorem quietT_of {o : Oper} {d : Nat} {v : Value} {T : Array Value} {Δ : List Ch} (hd : o.dst = some d) (hdn : d < n) (hnd : noDefer o.op = true) (hg : GuardOK ops o E) (t : Tms n E T) (hr : ∀ s ∈ readsOf ops o, s ≠ d)
    (hq : QuietE P o E Δ v) : QuietT P X ops o (T.setIfInBounds d v) Δ := by
  have hrr : ∀ s ∈ readsOf ops o, T[s]? = (T.setIfInBounds d v)[s]? := fun s hs => (Array.getElem?_setIfInBounds_ne (fun e => hr s hs e.symm)).symm
  refine ⟨v, fun d' e => ?_, hnd, .inl ⟨?_, fun ρ h hρ s => hq ρ h (fun x hx u hu => ?_) s⟩⟩
  · rw [hd] at e; cases e
    exact Array.getElem?_setIfInBounds_self_of_lt (by rw [t.size]; exact hdn)
  · rw [← wanted_congr hrr]; exact wanted_of t hg
  · rw [hρ x hx, ← evT_congr hrr x hx]; exact evT_of t hu

/-- An operation that looks at no memory. -/
theorem rg_pure {o : Oper} {d : Nat} {v : Value} (hd : o.dst = some d) (hdn : d < n) (hex : NotYet ex lo) (hnd : noDefer o.op = true) (hg : GuardOK ops o E) (hq : ∀ Δ, QuietE P o E Δ v)
    (e : Rg P X b n dr ops (lo + 1) ex fl ((d, v) :: E) rem k cs Γ) : Rg P X b n dr ops lo ex fl E (o :: rem) k cs Γ :=
  rg_quiet_gen fl hd hdn hex (fun _ h => h) hnd (fun _ T t hr => .inl fun Δ => quietT_of hd hdn hnd hg t hr (hq Δ))
    (fun _ R h t s => .inl ⟨wanted_of t hg, hq Γ _ h (fun x _ u hu => evT_of t hu) s⟩) e

/-- An operation that reads: 'c' says of the heap what it leans on. -/
theorem rg_read {o : Oper} {d : Nat} {v : Value} (c : List Ch → Prop) (hd : o.dst = some d) (hdn : d < n) (hex : NotYet ex lo) (hnd : noDefer o.op = true) (hg : GuardOK ops o E) (hq : ∀ Δ, c Δ → QuietE P o E Δ v) (h0 : c Γ)
    (e : Rg P X b n dr ops (lo + 1) ex ((lo, c) :: fl) ((d, v) :: E) rem k cs Γ) : Rg P X b n dr ops lo ex fl E (o :: rem) k cs Γ :=
  rg_quiet_gen _ hd hdn hex (fun _ h => List.mem_cons_of_mem _ h) hnd (fun _ T t hr => .inr ⟨c, List.mem_cons_self .., h0, fun Δ hc => quietT_of hd hdn hnd hg t hr (hq Δ hc)⟩)
    (fun _ R h t s => .inl ⟨wanted_of t hg, hq Γ h0 _ h (fun x _ u hu => evT_of t hu) s⟩) e

/-- An operation whose guard says no. -/
theorem rg_off {o : Oper} {d g : Nat} {w : Bool} {s : Nat} (hd : o.dst = some d) (hgd : o.guard = some (g, w)) (hds : dstOf ops g = some s) (hv : Env.get E s = some (.bool (!w))) (hdn : d < n) (hex : NotYet ex lo) (hnd : noDefer o.op = true)
    (e : Rg P X b n dr ops (lo + 1) ex fl ((d, undef) :: E) rem k cs Γ) : Rg P X b n dr ops lo ex fl E (o :: rem) k cs Γ := by
  have hoff : ∀ T, Tms n E T → Region.wanted o (yielded ops T) = false := by
    intro T t
    have h3 := t.get _ _ hv
    unfold dstOf at hds
    unfold Region.wanted yielded
    rw [hgd]
    simp only [hds, Option.bind_some, h3]
    cases w <;> rfl
  refine rg_quiet_gen fl hd hdn hex (fun _ h => h) hnd (fun _ T t hr => .inl fun Δ => ?_) (fun _ R h t _ => .inr ⟨hoff R t, rfl⟩) e
  have hrr : ∀ s ∈ readsOf ops o, T[s]? = (T.setIfInBounds d undef)[s]? := fun s hs => (Array.getElem?_setIfInBounds_ne (fun e => hr s hs e.symm)).symm
  refine ⟨undef, fun d' e => ?_, hnd, .inr (.inl ⟨?_, rfl⟩)⟩
  · rw [hd] at e; cases e
    exact Array.getElem?_setIfInBounds_self_of_lt (by rw [t.size]; exact hdn)
  · rw [← wanted_congr hrr]; exact hoff T t

/-- An operation whose guard was not carried out itself. -/
theorem rg_offU {o : Oper} {d g : Nat} {w : Bool} {s : Nat} (hd : o.dst = some d) (hgd : o.guard = some (g, w)) (hds : dstOf ops g = some s) (hv : Env.get E s = some undef) (hdn : d < n) (hex : NotYet ex lo) (hnd : noDefer o.op = true)
    (e : Rg P X b n dr ops (lo + 1) ex fl ((d, undef) :: E) rem k cs Γ) : Rg P X b n dr ops lo ex fl E (o :: rem) k cs Γ := by
  have hoff : ∀ T, Tms n E T → Region.wanted o (yielded ops T) = false := by
    intro T t
    have h3 := t.get _ _ hv
    unfold dstOf at hds
    unfold Region.wanted yielded
    rw [hgd]
    simp only [hds, Option.bind_some, h3]
    rfl
  refine rg_quiet_gen fl hd hdn hex (fun _ h => h) hnd (fun _ T t hr => .inl fun Δ => ?_) (fun _ R h t _ => .inr ⟨hoff R t, rfl⟩) e
  have hrr : ∀ s ∈ readsOf ops o, T[s]? = (T.setIfInBounds d undef)[s]? := fun s hs => (Array.getElem?_setIfInBounds_ne (fun e => hr s hs e.symm)).symm
  refine ⟨undef, fun d' e => ?_, hnd, .inr (.inl ⟨?_, rfl⟩)⟩
  · rw [hd] at e; cases e
    exact Array.getElem?_setIfInBounds_self_of_lt (by rw [t.size]; exact hdn)
  · rw [← wanted_congr hrr]; exact hoff T t

/-- The reads that may come behind operation j: each comes before it, or still reads so. -/
def Reval (ops : Array Oper) (ex : List Nat) (j : Nat) : Floats → List Ch → Prop
  | [], _ => True
  | (i, c) :: fl, Γ => (isAnc ops (ix ex j) (ix ex i) = true ∨ c Γ) ∧ Reval ops ex j fl Γ

theorem Reval.mem {j : Nat} {fl : Floats} {Γ : List Ch} (r : Reval ops ex j fl Γ) {i : Nat} {c : List Ch → Prop} (m : (i, c) ∈ fl) : isAnc ops (ix ex j) (ix ex i) = true ∨ c Γ := by
  induction fl with
  | nil => cases m
  | cons x fl ih =>
    obtain ⟨i', c'⟩ := x
    rcases List.mem_cons.1 m with e | e
    · cases e; exact r.1
    · exact ih r.2 e

/-- The general rule for an operation that may turn memory, or calls. -/
theorem rg_loud {o : Oper} {φ : Value → List Ch → Prop} (hdn : ∀ d, o.dst = some d → d < n) (hex : NotYet ex lo) (hg : GuardOK ops o E)
    (hc : dr = false ∨ chkLast ops lo ex = true) (hdo : Does P X o E Γ φ)
    (e : ∀ v Γ', φ v Γ' → (dr = false ∨ Reval ops ex lo fl Γ') ∧ Rg P X b n dr ops (lo + 1) ex fl (match o.dst with | some d => (d, v) :: E | none => E) rem k cs Γ') :
    Rg P X b n dr ops lo ex fl E (o :: rem) k cs Γ := by
  intro hrem
  have hset : ∀ R v, Tms n E R → Tms n (match o.dst with | some d => (d, v) :: E | none => E) (putT R o.dst v) := by
    intro R v t
    unfold putT
    cases hd : o.dst with
    | none => exact t
    | some d => exact t.set (hdn d hd) v
  cases dr with
  | false =>
    intro hx0 R h t s
    subst hx0
    obtain ⟨ho, hrem'⟩ := remOf_static hrem
    have hlt := lt_of_get? ho
    rw [range'_head hlt]
    refine hdo b R ops lo _ k cs h ho (wanted_of t hg) (fun x _ u hu => evT_of t hu) s fun v Γ' h' hφ s' => ?_
    exact (e v Γ' hφ).2 hrem' rfl _ h' (hset R v t) s'
  | true =>
    have hc := hc.resolve_left (by simp)
    intro kk od Xs R T h st s l lin
    obtain ⟨hlt, ho, hrem'⟩ := remOf_cons od hrem
    have hnt := od.notTaken hlt
    have hcl := od.closed lo
    have hltx := od.lt lo hlt
    induction lin generalizing R h with
    | nil hn =>
      exact absurd (st.tk _ (all_of_stuck kk hn _ hltx)) hnt
    | @cons Xs i l hx hr hl ih =>
      by_cases ht : Taken ops lo ex i
      · exact quiet_step kk st s hx hr ht fun R' h' st' s' => ih R' h' st' s'
      · have hil : i = ix ex lo := by
          obtain ⟨oi, hoi, hdi⟩ := hr
          obtain ⟨j, hj1, hj2⟩ := od.surj i (lt_of_get? hoi)
          have h1 := List.all_eq_true.1 hc j (List.mem_range.2 hj1)
          simp only [Bool.or_eq_true, decide_eq_true_eq] at h1
          rcases h1 with h1 | h1
          · rcases Nat.lt_or_ge j lo with h2 | h2
            · exact absurd ⟨j, h2, hj1, hj2⟩ ht
            · have : j = lo := by omega
              subst this; exact hj2.symm
          · rw [hj2] at h1
            have := anc_closed kk (S := fun i => Xs i = true) (fun i o hi ho => st.cl i o hi ho) i oi hoi hdi (ix ex lo) hltx h1
            exact absurd (st.tk _ this) hnt
        subst hil
        generalize hix : ix ex lo = i at *
        obtain ⟨o', ho', hdi⟩ := hr
        rw [ho] at ho'; cases ho'
        have hanc := anc_closed kk (S := fun i => Xs i = true) (fun i o hi ho => st.cl i o hi ho) i o ho hdi
        have hread : ∀ s ∈ readsOf ops o, R[s]? = T[s]? := by
          intro s hs
          rcases st.rel s with h1 | ⟨j, _, h2, h3⟩
          · exact h1
          · have := hanc j (lt_of_dst h3) (kk.use i o s j ho hs h3)
            rw [h2] at this; cases this
        have hw : Region.wanted o (yielded ops R) = true := by rw [wanted_congr hread]; exact wanted_of st.tm hg
        refine hdo b R ops i l k cs h ho hw (fun x hx' u hu => (evT_congr hread x hx').trans (evT_of st.tm hu)) s fun v Γ' h' hφ s' => ?_
        obtain ⟨hrev, hrg⟩ := e v Γ' hφ
        have hrev := hrev.resolve_left (by simp)
        have hts : ∀ j, Taken ops (lo + 1) ex j ↔ Taken ops lo ex j ∨ j = i := fun j => by rw [← hix]; exact taken_succ hlt
        have hancT := anc_closed kk (S := Taken ops lo ex) (fun i o hi ho => hcl i o hi ho)
        refine hrg hrem' kk od (addX Xs i) (putT R o.dst v) (putT T o.dst v) h' ⟨hset T v st.tm, ?_, ?_, ?_, ?_, ?_⟩ s' l hl
        · unfold putT; split
          · rw [Array.size_setIfInBounds]; exact st.sz
          · exact st.sz
        · intro s
          by_cases hs : dstOf ops i = some s
          · left
            have hds : o.dst = some s := by unfold dstOf at hs; rw [ho] at hs; exact hs
            unfold putT; rw [hds]
            dsimp only
            rw [Array.getElem?_setIfInBounds_self_of_lt (by rw [st.sz]; exact hdn s hds), Array.getElem?_setIfInBounds_self_of_lt (by rw [st.tm.size]; exact hdn s hds)]
          · have hP : ∀ R' : Array Value, (putT R' o.dst v)[s]? = R'[s]? := by
              intro R'
              unfold putT
              split
              · rename_i d hd'
                refine Array.getElem?_setIfInBounds_ne fun e => hs ?_
                subst e; unfold dstOf; rw [ho]; exact hd'
              · rfl
            rw [hP, hP]
            rcases st.rel s with h1 | ⟨j, h1, h2, h3⟩
            · exact .inl h1
            · refine .inr ⟨j, (hts j).2 (.inl h1), ?_, h3⟩
              unfold addX
              split
              · rename_i hj; subst hj; exact absurd h3 hs
              · exact h2
        · intro j hj
          unfold addX at hj
          split at hj
          · rename_i hj'; exact (hts j).2 (.inr hj')
          · exact (hts j).2 (.inl (st.tk j hj))
        · intro j o' hj ho' a ha
          unfold addX at hj ⊢
          split at hj
          · rename_i hj'; subst hj'; rw [ho] at ho'; cases ho'
            split
            · rfl
            · exact hdi a ha
          · split
            · rfl
            · exact st.cl j o' hj ho' a ha
        · intro j o' hj ho' hxj
          unfold addX at hxj
          split at hxj
          · cases hxj
          · rename_i hne
            have hj' : Taken ops lo ex j := by
              rcases (hts j).1 hj with h1 | h1
              · exact h1
              · exact absurd h1 hne
            have hr : ∀ s ∈ readsOf ops o', T[s]? = (putT T o.dst v)[s]? := by
              intro s hs
              unfold putT
              split
              · rename_i d hd'
                rw [Array.getElem?_setIfInBounds_ne]
                intro e; subst e
                have hdl : dstOf ops i = some d := by unfold dstOf; rw [ho]; exact hd'
                exact hnt (hancT j o' ho' (hcl j o' hj' ho') i hltx (kk.use j o' _ i ho' hs hdl))
              · rfl
            have hdd : ∀ d', o'.dst = some d' → T[d']? = (putT T o.dst v)[d']? := by
              intro d' hd2
              unfold putT
              split
              · rename_i d hd'
                rw [Array.getElem?_setIfInBounds_ne]
                intro e; subst e
                have h1 : dstOf ops j = some d := by unfold dstOf; rw [ho']; exact hd2
                have h2 : dstOf ops i = some d := by unfold dstOf; rw [ho]; exact hd'
                exact hne (kk.uniq j i d h1 h2)
              · rfl
            rcases st.q j o' hj' ho' hxj with q | ⟨j0, c, c0, c1, c2, c3⟩
            · exact .inl fun Δ => (q Δ).congr hr hdd
            · refine .inr ⟨j0, c, c0, c1, ?_, fun Δ hc => (c3 Δ hc).congr hr hdd⟩
              rcases hrev.mem c1 with h1 | h1
              · rw [c0, hix] at h1
                have := hanc j (lt_of_get? ho') h1
                rw [hxj] at this; cases this
              · exact h1

end

end Go.Lx
