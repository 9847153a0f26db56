/-
  Lemmas towards the law, proved without conditions of their own: THE LOGIC, THIRD PART: regions. One judgement 'Rg' for a region in the text's order and for one that draws its order: operations are taken in the text's order; an operation that turns no memory may in truth run later; what is asked for that is checked by a closed function ('okR') and, behind an operation that turns memory, of the reads that may come behind it ('Reval').
-/
import Derived.Test.YtedaknlacigbhaaPk01
namespace Go.Lx
open Go

def nxv : Next → Option Value
  | .value v => some v
  | .skip => some undef
  | _ => none

def putT (R : Array Value) (dst : Option Tmp) (v : Value) : Array Value :=
  match dst with
  | some d => R.setIfInBounds d v
  | none => R

def evT (R : Array Value) : Operand → Value
  | .tmp t => R.getD t undef
  | .const v => v
  | .global g => .pointer (some ⟨g, 0, none⟩)
  | .func f => .func (.func f) #[] #[]

theorem eval_fr (b : Base) (R : Array Value) (k : List Item) : (b.fr R k).eval = evT R := by
  funext x; cases x <;> rfl

theorem finish_fr (b : Base) (R : Array Value) (ops : Array Oper) (i : Nat) (l : List Nat) (k : List Item) (v : Value) :
    (b.fr R (.inRegion ops (i :: l) :: k)).finish v = b.fr (putT R ((ops[i]?).bind (·.dst)) v) (.inRegion ops l :: k) := by
  cases h : (ops[i]?).bind (·.dst) <;> simp [Frame.finish, Base.fr, putT, h]

def noDefer : Op → Bool
  | .defer _ => false
  | _ => true

section
variable {P : Program} {X : Tgt} {b : Base} {R : Array Value} {ops : Array Oper} {i : Nat} {l : List Nat} {k : List Item} {cs : List Frame} {h : LH} {o : Oper}

theorem stepG_oper {m : Bool} (ho : ops[i]? = some o) (hw : Region.wanted o (yielded ops R) = true) (hd : noDefer o.op = true) (w : World) :
    stepG P m (gor (b.fr R (.inRegion ops (i :: l) :: k)) cs) w = stepG.apply P true (b.fr R (.inRegion ops (i :: l) :: k)) cs none (execOp (evT R) o) w := by
  have he := eval_fr b R (.inRegion ops (i :: l) :: k)
  simp only [Base.fr] at he
  have hop : ∀ (x : Option Nat), (match x, o.op with
      | some l', .defer c => stepG.apply P true (b.fr R (.inRegion ops (i :: l) :: k)) cs none (do Instr.deferInRound l' (← resolve (evT R) c o.type); pure .skip) w
      | _, _ => stepG.apply P true (b.fr R (.inRegion ops (i :: l) :: k)) cs none (execOp (evT R) o) w) = stepG.apply P true (b.fr R (.inRegion ops (i :: l) :: k)) cs none (execOp (evT R) o) w := by
    intro x
    cases x with
    | none => rfl
    | some l' => cases ho' : o.op <;> first | rfl | (rw [ho'] at hd; cases hd)
  rw [← hop b.ro]
  simp only [stepG, stepG.exec, stepG.oper, Frame.oper?, gor, Base.fr, ho, hw, he, Option.map_some, Option.getD_some, if_true]
  rfl

/-- What comes of an operation, in the machine. -/
def NxOK (P : Program) (X : Tgt) (fr : Frame) (cs : List Frame) : Next → LH → Prop
  | .value v, h => Ev P X (gor (fr.finish v) cs) h
  | .skip, h => Ev P X (gor (fr.finish undef) cs) h
  | .enter f args, h => Ev P X (gor (Frame.enter P f args .normal) (fr :: cs)) h
  | .round l f tmps assign body, h => Ev P X (gor (Frame.round l f tmps assign body .normal) (fr :: cs)) h
  | _, _ => False

theorem ev_op (ho : ops[i]? = some o) (hw : Region.wanted o (yielded ops R) = true) (hd : noDefer o.op = true)
    (e : wpE P (execOp (evT R) o) (NxOK P X (b.fr R (.inRegion ops (i :: l) :: k)) cs) h) : Ev P X (gor (b.fr R (.inRegion ops (i :: l) :: k)) cs) h := by
  refine .one fun w hs => ?_
  obtain ⟨nx, w', h', es', r1, r2, r3, r4⟩ := wpE_sound (execOp (evT R) o) #[] hs e
  rw [stepG_oper ho hw hd]
  have r0 : (execOp (evT R) o).runT P w #[] = (.ok nx w', es') := by rw [r1]; simp
  have hev : ∀ (q : Bool), ∀ x ∈ seen P b.fn (if q then #[] else es'), EvOK h' x := fun q x hx => by
    have := mem_seen hx
    cases q <;> simp at this
    exact r3 x this
  cases nx with
  | value v =>
    refine ⟨_, _, w', h', _, ?_, r2, hev (b.kind == .early), r4⟩
    simp only [stepG.apply, if_true, r0]
    simp [GStep.after, Base.fr, gor]
  | skip =>
    refine ⟨_, _, w', h', _, ?_, r2, hev (b.kind == .early), r4⟩
    simp only [stepG.apply, if_true, r0]
    simp [GStep.after, Base.fr, gor]
  | enter f args =>
    refine ⟨_, _, w', h', _, ?_, r2, hev (b.kind == .early), r4⟩
    simp only [stepG.apply, if_true, r0]
    simp [GStep.after, Base.fr, gor]
  | round l f tmps assign body =>
    refine ⟨_, _, w', h', _, ?_, r2, hev (b.kind == .early), r4⟩
    simp only [stepG.apply, if_true, r0]
    simp [GStep.after, Base.fr, gor]
  | _ => exact r4.elim

theorem ev_off (ho : ops[i]? = some o) (hw : Region.wanted o (yielded ops R) = false) (e : Ev P X (gor (b.fr (putT R o.dst undef) (.inRegion ops l :: k)) cs) h) :
    Ev P X (gor (b.fr R (.inRegion ops (i :: l) :: k)) cs) h := by
  have hf := finish_fr b R ops i l k undef
  rw [ho] at hf
  simp only [Option.bind_some] at hf
  rw [← hf] at e
  refine e.silent fun w => ?_
  simp only [stepG, stepG.exec, gor, Base.fr, ho, hw, Option.map_some, Option.getD_some]
  rfl
end

/-! ### What the order is asked -/

def dstOf (ops : Array Oper) (i : Nat) : Option Nat := (ops[i]?).bind (·.dst)

def tmpsIn (o : Oper) : List Nat := o.op.operands.toList.filterMap fun | .tmp t => some t | _ => none

def readsOf (ops : Array Oper) (o : Oper) : List Nat :=
  tmpsIn o ++ (match o.guard with | some (g, _) => (dstOf ops g).toList | none => [])

def depsOf (o : Oper) : List Nat := o.after.toList.filterMap fun e => if Region.binds .any e then some e.on else none

def ancs (ops : Array Oper) : Array Nat := Region.before ops

def isAnc (ops : Array Oper) (i a : Nat) : Bool := ((ancs ops).getD i 0).testBit a

def okR (n : Nat) (ops : Array Oper) : Bool :=
  let anc := ancs ops
  let is := List.range ops.size
  is.all fun i => match ops[i]? with
    | none => false
    | some o =>
      (depsOf o).all (fun a => decide (a < i)) &&
      (match o.dst with
        | none => true
        | some d => decide (d < n) && is.all fun j => j == i || dstOf ops j != some d) &&
      is.all (fun a => !(anc.getD i 0).testBit a || (depsOf o).any fun e => e == a || (anc.getD e 0).testBit a) &&
      (readsOf ops o).all fun s => is.all fun j => dstOf ops j != some s || (anc.getD i 0).testBit j

section
variable {n : Nat} {ops : Array Oper}

structure OkR (n : Nat) (ops : Array Oper) : Prop where
  low : ∀ (i : Nat) (o : Oper), ops[i]? = some o → ∀ a ∈ depsOf o, a < i
  dst : ∀ (i : Nat) (o : Oper) (d : Nat), ops[i]? = some o → o.dst = some d → d < n
  uniq : ∀ (i j d : Nat), dstOf ops i = some d → dstOf ops j = some d → i = j
  via : ∀ (i : Nat) (o : Oper) (a : Nat), ops[i]? = some o → a < ops.size → isAnc ops i a = true → ∃ e ∈ depsOf o, e = a ∨ isAnc ops e a = true
  use : ∀ (i : Nat) (o : Oper) (s j : Nat), ops[i]? = some o → s ∈ readsOf ops o → dstOf ops j = some s → isAnc ops i j = true

theorem lt_of_get? {α : Type} {xs : Array α} {i : Nat} {x : α} (h : xs[i]? = some x) : i < xs.size := by
  rcases Nat.lt_or_ge i xs.size with hl | hl
  · exact hl
  · simp [Array.getElem?_eq_none hl] at h

theorem lt_of_dst {j d : Nat} (h : dstOf ops j = some d) : j < ops.size := by
  unfold dstOf at h
  cases hj : ops[j]? with
  | none => rw [hj] at h; cases h
  | some o => exact lt_of_get? hj

theorem okR_iff (h : okR n ops = true) : OkR n ops := by
  have h' : ∀ i, i < ops.size → ∀ o, ops[i]? = some o →
      ((depsOf o).all (fun a => decide (a < i)) &&
      (match o.dst with
        | none => true
        | some d => decide (d < n) && (List.range ops.size).all fun j => j == i || dstOf ops j != some d) &&
      (List.range ops.size).all (fun a => !((ancs ops).getD i 0).testBit a || (depsOf o).any fun e => e == a || ((ancs ops).getD e 0).testBit a) &&
      (readsOf ops o).all fun s => (List.range ops.size).all fun j => dstOf ops j != some s || ((ancs ops).getD i 0).testBit j) = true := by
    intro i hi o ho
    have := List.all_eq_true.1 h i (List.mem_range.2 hi)
    rw [ho] at this
    exact this
  refine ⟨?_, ?_, ?_, ?_, ?_⟩
  · intro i o ho a ha
    have := h' i (lt_of_get? ho) o ho
    simp only [Bool.and_eq_true] at this
    exact of_decide_eq_true (List.all_eq_true.1 this.1.1.1 a ha)
  · intro i o d ho hd
    have := h' i (lt_of_get? ho) o ho
    simp only [Bool.and_eq_true, hd] at this
    exact of_decide_eq_true this.1.1.2.1
  · intro i j d hi hj
    obtain ⟨o, ho, hd⟩ : ∃ o, ops[i]? = some o ∧ o.dst = some d := by
      unfold dstOf at hi
      cases hx : ops[i]? with
      | none => rw [hx] at hi; cases hi
      | some o => rw [hx] at hi; exact ⟨o, rfl, hi⟩
    have := h' i (lt_of_get? ho) o ho
    simp only [Bool.and_eq_true, hd] at this
    have := List.all_eq_true.1 this.1.1.2.2 j (List.mem_range.2 (lt_of_dst hj))
    simp only [hj, bne_self_eq_false, Bool.or_false, beq_iff_eq] at this
    exact this.symm
  · intro i o a ho ha hanc
    have := h' i (lt_of_get? ho) o ho
    simp only [Bool.and_eq_true] at this
    have := List.all_eq_true.1 this.1.2 a (List.mem_range.2 ha)
    unfold isAnc at hanc
    simp only [hanc, Bool.not_true, Bool.false_or, List.any_eq_true, Bool.or_eq_true, beq_iff_eq] at this
    exact this
  · intro i o s j ho hs hj
    have := h' i (lt_of_get? ho) o ho
    simp only [Bool.and_eq_true] at this
    have := List.all_eq_true.1 (List.all_eq_true.1 this.2 s hs) j (List.mem_range.2 (lt_of_dst hj))
    simp only [hj, bne_self_eq_false, Bool.false_or] at this
    exact this

/-- A set that holds with each operation those that it waits for holds all that come before it. -/
theorem anc_closed (k : OkR n ops) {S : Nat → Prop} (hc : ∀ i o, S i → ops[i]? = some o → ∀ a ∈ depsOf o, S a) :
    ∀ i o, ops[i]? = some o → (∀ a ∈ depsOf o, S a) → ∀ a, a < ops.size → isAnc ops i a = true → S a := by
  intro i
  induction i using Nat.strongRecOn with
  | _ i ih =>
    intro o ho hd a ha hanc
    obtain ⟨e, he, h | h⟩ := k.via i o a ho ha hanc
    · subst h; exact hd e he
    · have hlt := k.low i o ho e he
      obtain ⟨oe, hoe⟩ : ∃ oe, ops[e]? = some oe := ⟨_, Array.getElem?_eq_getElem (Nat.lt_trans hlt (lt_of_get? ho))⟩
      exact ih e hlt oe hoe (fun a' ha' => hc e oe (hd e he) hoe a' ha') a ha h

def Ready (ops : Array Oper) (Xs : Nat → Bool) (i : Nat) : Prop := ∃ o, ops[i]? = some o ∧ ∀ a ∈ depsOf o, Xs a = true

def addX (Xs : Nat → Bool) (i : Nat) : Nat → Bool := fun j => if j = i then true else Xs j

inductive Lin (ops : Array Oper) : (Nat → Bool) → List Nat → Prop
  | nil {Xs : Nat → Bool} : (∀ i, i < ops.size → Xs i = false → ¬ Ready ops Xs i) → Lin ops Xs []
  | cons {Xs : Nat → Bool} {i : Nat} {l : List Nat} : Xs i = false → Ready ops Xs i → Lin ops (addX Xs i) l → Lin ops Xs (i :: l)

theorem all_of_stuck (k : OkR n ops) {Xs : Nat → Bool} (h : ∀ i, i < ops.size → Xs i = false → ¬ Ready ops Xs i) : ∀ i, i < ops.size → Xs i = true := by
  intro i
  induction i using Nat.strongRecOn with
  | _ i ih =>
    intro hi
    cases hx : Xs i with
    | true => rfl
    | false =>
      exfalso
      obtain ⟨o, ho⟩ : ∃ o, ops[i]? = some o := ⟨_, Array.getElem?_eq_getElem hi⟩
      exact h i hi hx ⟨o, ho, fun a ha => ih a (k.low i o ho a ha) (Nat.lt_trans (k.low i o ho a ha) hi)⟩

theorem lin_go : ∀ (fuel t : Nat) (listed : Array Bool) (acc : List Nat), listed.size = ops.size → ((List.range ops.size).filter fun i => !listed.getD i true).length = fuel →
    ∃ l, Region.linearise.go .any ops fuel t listed acc = acc.reverse ++ l ∧ Lin ops (fun i => listed.getD i false) l := by
  intro fuel
  induction fuel with
  | zero =>
    intro t listed acc hs hf
    refine ⟨[], by simp [Region.linearise.go], .nil fun i hi hx => ?_⟩
    exfalso
    have : i ∈ (List.range ops.size).filter fun i => !listed.getD i true := by
      refine List.mem_filter.2 ⟨List.mem_range.2 hi, ?_⟩
      simp [Array.getD_eq_getD_getElem?, hs, hi] at hx ⊢
      exact hx
    rw [List.length_eq_zero_iff.1 hf] at this
    cases this
  | succ fuel ih =>
    intro t listed acc hs hf
    unfold Region.linearise.go
    dsimp only
    split
    · rename_i i hi
      have hmem := List.mem_of_getElem? hi
      obtain ⟨hr, hp⟩ := List.mem_filter.1 hmem
      have hlt := List.mem_range.1 hr
      simp only [Bool.and_eq_true, Bool.not_eq_true'] at hp
      obtain ⟨hp1, hp2⟩ := hp
      have hfa : listed.getD i false = false := by
        simp [Array.getD_eq_getD_getElem?, hs, hlt] at hp1 ⊢; exact hp1
      obtain ⟨l, e1, e2⟩ := ih (t / _) (listed.setIfInBounds i true) (i :: acc) (by simp [hs]) (by
        have hcount : ∀ (L : List Nat), L.Nodup → i ∈ L → (∀ j ∈ L, j < ops.size) →
            (L.filter fun j => !listed.getD j true).length = (L.filter fun j => !(listed.setIfInBounds i true).getD j true).length + 1 := by
          intro L
          induction L with
          | nil => intro _ h; cases h
          | cons x L ihL =>
            intro nd hm hb
            have nd' := List.nodup_cons.1 nd
            by_cases hxi : x = i
            · subst hxi
              have h1 : (!listed.getD x true) = true := by simp [hp1]
              have h2 : (!(listed.setIfInBounds x true).getD x true) = false := by simp [Array.getD_eq_getD_getElem?, hs, hlt]
              have h3 : ∀ j ∈ L, (!listed.getD j true) = (!(listed.setIfInBounds x true).getD j true) := by
                intro j hj
                have hne : x ≠ j := fun e => nd'.1 (e ▸ hj)
                simp [Array.getD_eq_getD_getElem?, Array.getElem?_setIfInBounds_ne hne]
              rw [List.filter_cons_of_pos (by simpa using h1), List.filter_cons_of_neg (by simp [h2]), List.filter_congr h3]
              simp
            · have hm' : i ∈ L := by
                rcases List.mem_cons.1 hm with e | e
                · exact absurd e.symm hxi
                · exact e
              have h3 : (!listed.getD x true) = (!(listed.setIfInBounds i true).getD x true) := by
                simp [Array.getD_eq_getD_getElem?, Array.getElem?_setIfInBounds_ne (fun e => hxi e.symm)]
              have := ihL nd'.2 hm' (fun j hj => hb j (List.mem_cons_of_mem _ hj))
              rw [List.filter_cons, List.filter_cons, ← h3]
              split
              · simp only [List.length_cons, this]
              · exact this
        have := hcount (List.range ops.size) List.nodup_range hr (fun j hj => List.mem_range.1 hj)
        omega)
      refine ⟨i :: l, by rw [e1]; simp, .cons hfa ?_ ?_⟩
      · obtain ⟨o, ho⟩ : ∃ o, ops[i]? = some o := ⟨_, Array.getElem?_eq_getElem hlt⟩
        refine ⟨o, ho, fun a ha => ?_⟩
        rw [ho] at hp2
        simp only [Option.map_some, Option.getD_some, Array.all_eq_true_iff_forall_mem] at hp2
        unfold depsOf at ha
        obtain ⟨e, he1, he2⟩ := List.mem_filterMap.1 ha
        have := hp2 e (Array.mem_toList_iff.1 he1)
        split at he2
        · rename_i hb
          cases he2
          simpa [hb] using this
        · cases he2
      · have : (fun j => (listed.setIfInBounds i true).getD j false) = addX (fun i => listed.getD i false) i := by
          funext j
          unfold addX
          by_cases hji : j = i
          · subst hji; simp [Array.getD_eq_getD_getElem?, hs, hlt]
          · simp [Array.getD_eq_getD_getElem?, Array.getElem?_setIfInBounds_ne (fun e => hji e.symm), hji]
        rw [← this]; exact e2
    · rename_i hn
      refine ⟨[], by simp, .nil fun i hi hx hr => ?_⟩
      obtain ⟨o, ho, hd⟩ := hr
      have hlen : (List.filter (fun i => !listed.getD i true && (Option.map (fun x => x.after.all fun e => !Region.binds Region.Mode.any e || listed.getD e.on false) ops[i]?).getD false) (List.range ops.size)) = [] := by
        cases hL : (List.filter (fun i => !listed.getD i true && (Option.map (fun x => x.after.all fun e => !Region.binds Region.Mode.any e || listed.getD e.on false) ops[i]?).getD false) (List.range ops.size)) with
        | nil => rfl
        | cons x L =>
          rw [hL] at hn
          have : t % (x :: L).length < (x :: L).length := Nat.mod_lt _ (by simp)
          rw [List.getElem?_eq_getElem this] at hn
          cases hn
      have : i ∈ (List.filter (fun i => !listed.getD i true && (Option.map (fun x => x.after.all fun e => !Region.binds Region.Mode.any e || listed.getD e.on false) ops[i]?).getD false) (List.range ops.size)) := by
        refine List.mem_filter.2 ⟨List.mem_range.2 hi, ?_⟩
        rw [ho]
        simp only [Option.map_some, Option.getD_some, Bool.and_eq_true, Array.all_eq_true_iff_forall_mem, Bool.not_eq_true']
        refine ⟨by simp [Array.getD_eq_getD_getElem?, hs, hi] at hx ⊢; exact hx, fun e he => ?_⟩
        cases hb : Region.binds Region.Mode.any e with
        | false => rfl
        | true =>
          have := hd e.on (by unfold depsOf; exact List.mem_filterMap.2 ⟨e, Array.mem_toList_iff.2 he, by simp [hb]⟩)
          simpa using this
      rw [hlen] at this
      cases this

theorem lin_schedule (t : Nat) : Lin ops (fun _ => false) (Region.schedule true ops t) := by
  have hfil : ((List.range ops.size).filter fun i => !(Array.replicate ops.size false).getD i true).length = ops.size := by
    rw [List.filter_eq_self.2]
    · simp
    · intro i hi; simp [Array.getD_eq_getD_getElem?, List.mem_range.1 hi]
  obtain ⟨l, e1, e2⟩ := lin_go (ops := ops) ops.size t (Array.replicate ops.size false) [] (by simp) hfil
  have : (fun i => (Array.replicate ops.size false).getD i false) = fun _ => false := by
    funext i
    simp only [Array.getD_eq_getD_getElem?, Array.getElem?_replicate]
    split <;> rfl
  rw [this] at e2
  unfold Region.schedule
  simp only [Bool.true_or, if_true]
  unfold Region.linearise
  rw [e1]
  exact e2

end

end Go.Lx
