/-
  Lemmas towards the law, proved without conditions of their own: COMPANY, ELEVENTH PART: a child's rules: it reads the shared block, adds to it, sends, closes its channel. No condition; COMPANY, TWELFTH PART: calls that turn the target; a step of a chain as a child's. No condition; COMPANY, THIRTEENTH PART: the starter's target, with the children's heaps kept aside, and the starter's rules: it enters, starts a child, chooses, leaves. No condition.
-/
import Derived.Test.YtedaknlacigbhaaPk26
import Derived.Test.YtedaknlacigbhaaPk19
namespace Go.Lx
open Go Go.Conc

theorem wrap_add1 (z : Int) : IntKind.wrap .i64 (IntKind.wrap .i64 z + 1) = IntKind.wrap .i64 (z + 1) := by
  rw [wI, wI, wI]
  omega

/-- The shared block, when m adds remain. -/
abbrev boOf (x y : Value) (T : TypeId) (n0 : Int) (m : Nat) : Obj := .cells ⟨[x, y, .int .i64 (IntKind.wrap .i64 (n0 - m))]⟩ T (0, 0)

section
variable {P : Program} {B : Nat} {bo : Nat → Obj} {ch : Bool → Nat} {c : Nat} {Γf : List Ch} {vs : List Value} {kk : Nat}
variable {b : Base} {n : Nat} {dr : Bool} {ops : Array Oper} {lo : Nat} {ex : List Nat} {fl : Floats} {E : Env} {rem : List Oper} {k : List Item} {cs : List Frame} {Γ : List Ch}
variable {d : Nat} {T : TypeId} {pos : String} {af : Array Edge} {gd : Option (Nat × Bool)}

/-- (R1) A cell of the shared block is read. -/
theorem rg_shLoad {t off : Nat} {x : Operand} {v : Value} [s : Scalar P t] (hx : Env.val E x = some (.pointer (some ⟨B, off, none⟩))) (hoff : off < 2) (hbo : ∀ m, ∃ cc T fz, bo m = .cells cc T fz ∧ cc[off]? = some v)
    (e : Rg P (kidTgt P B bo ch c Γf vs kk) b n true ops (lo + 1) ex fl ((d, v) :: E) rem k cs Γ)
    (hdn : d < n := by decide) (hex : NotYet ex lo := trivial) (hg : GuardOK ops ⟨some d, .load t x, T, pos, af, gd⟩ E := by first | exact trivial | exact ⟨_, rfl, rfl⟩) :
    Rg P (kidTgt P B bo ch c Γf vs kk) b n true ops lo ex fl E (⟨some d, .load t x, T, pos, af, gd⟩ :: rem) k cs Γ := by
  refine rg_quiet_gen (v := v) fl rfl hdn hex (fun _ h => h) rfl (fun _ T0 t' hr => .inl fun Δ => ?_) (fun h => by cases h) e
  have hrr : ∀ s ∈ readsOf ops ⟨some d, .load t x, T, pos, af, gd⟩, T0[s]? = (T0.setIfInBounds d v)[s]? := fun s hs => (Array.getElem?_setIfInBounds_ne (fun e => hr s hs e.symm)).symm
  refine ⟨v, fun d' e => ?_, rfl, .inr (.inr ⟨?_, fun b R i l k cs h ho hre hw st e' => ?_⟩)⟩
  · cases e
    exact Array.getElem?_setIfInBounds_self_of_lt (by rw [t'.size]; exact hdn)
  · rw [← wanted_congr hrr]; exact wanted_of t' hg
  · have hm : x ∈ (Op.load t x).operands := by simp [Op.operands]
    have hxv : evT R x = .pointer (some ⟨B, off, none⟩) := by rw [hre x hm, ← evT_congr hrr x hm]; exact evT_of t' hx
    refine .stop ⟨⟨_, _, rfl⟩, .node (fun y => y = .run ⟨vs, kk, gor (b.fr (putT R (some d) v) (.inRegion ops l :: k)) cs, h⟩) (fun s e => by cases e; rfl) (.rd fun w m hw' hb => ?_) (fun y hy => by subst hy; exact kid_of_ev (e' h st) ⟨_, _, rfl⟩)⟩
    obtain ⟨cc, T', fz, b1, b2⟩ := hbo m
    have hc : w.cell? ⟨B, off, none⟩ = some v := by simp [World.cell?, hb, b1, b2]
    have r : RunsTo P (execOp (evT R) ⟨some d, .load t x, T, pos, af, gd⟩) w (.value v) w [⟨.cell ⟨B, off, none⟩, false, false⟩] := by
      simp only [execOp, hxv, Instr.loadAt, Instr.sureAddr]
      exact runs_bind (runs_bind0 (runs_pure _) (runs_loadVar hc)) (runs_pure _)
    obtain ⟨es, e1, e2⟩ := step_val (m := false) (l := l) (k := k) (cs := cs) (b := b) ho hw rfl r rfl
    exact ⟨_, _, es, e1, fun x hx => by have := e2 x hx; simp at this; subst this; exact .inr (.inl ⟨_, rfl, rfl, .inl ⟨rfl, hoff⟩⟩), rfl⟩

/-- (R2) The shared block's count is raised. -/
theorem does_shAdd {f : FuncId} {args : List Operand} {at' : Array TypeId} {dst : Option Tmp} {x y : Value} {T' : TypeId} {n0 : Int} [xo : ExtOf P f (Extern.Atomic.update (Op.intArith .add) .i64 true)]
    (ha : vals E args = some [.pointer (some ⟨B, 2, none⟩), .int .i64 1]) :
    DoesXY P (kidTgt P B (boOf x y T' n0) ch c Γf vs (kk + 1)) (kidTgt P B (boOf x y T' n0) ch c Γf vs kk) ⟨dst, .call ⟨.value (.func f), ⟨args⟩, at'⟩, T, pos, af, gd⟩ E Γ (fun v Γ' => (∃ a, v = .int .i64 a) ∧ Γ' = Γ) := by
  intro b R ops i l k cs h ho hw hρ st e
  refine .stop ⟨⟨_, _, rfl⟩, .node (fun y' => ∃ a, y' = .run ⟨vs, kk, gor (b.fr (putT R dst (.int .i64 a)) (.inRegion ops l :: k)) cs, h⟩) (fun s e => by cases e; rfl) (.add fun w m hw' hb => ?_) (fun y' ⟨a, hy⟩ => by subst hy; exact kid_of_ev (e _ _ h ⟨⟨a, rfl⟩, rfl⟩ st) ⟨_, _, rfl⟩)⟩
  obtain ⟨fn, f1, f2, f3, f4, f5⟩ := xo.eq
  have hargs : args.map (evT R) = [.pointer (some ⟨B, 2, none⟩), .int .i64 1] := vals_map args _ (fun x hx => hρ x (by simp [Op.operands, Call.operands, hx])) ha
  have h0 : evT R (.func f) = .func (.func f) #[] #[] := rfl
  have hc : w.cell? ⟨B, 2, none⟩ = some (.int .i64 (IntKind.wrap .i64 (n0 - (m + 1 : Nat)))) := by simp [World.cell?, hb]
  have hfz : w.frozen? ⟨B, 2, none⟩ = false := by simp [World.frozen?, hb]
  have hsum : IntKind.wrap .i64 (IntKind.wrap .i64 (n0 - (m + 1 : Nat)) + 1) = IntKind.wrap .i64 (n0 - m) := by
    have : (n0 : Int) - m = (n0 - (m + 1 : Nat)) + 1 := by push_cast; omega
    rw [this]
    exact wrap_add1 _
  have hlt : B < w.heap.size := lt_of_heap hb
  have hset : w.setCell ⟨B, 2, none⟩ (.int .i64 (IntKind.wrap .i64 (n0 - m))) = { w with heap := w.heap.setIfInBounds B (boOf x y T' n0 m) } := by
    have hg : w.heap[B] = boOf x y T' n0 (m + 1) := by have := hb; rw [Array.getElem?_eq_getElem hlt] at this; exact Option.some.inj this
    unfold World.setCell
    congr 1
    apply Array.ext
    · simp
    · intro j hi1 hi2
      simp only [Array.getElem_modify]
      by_cases e : B = j
      · subst e; simp [hg]
      · rw [if_neg e, Array.getElem_setIfInBounds_ne _ e]
  have r : RunsTo P (execOp (evT R) ⟨dst, .call ⟨.value (.func f), ⟨args⟩, at'⟩, T, pos, af, gd⟩) w (.value (.int .i64 (IntKind.wrap .i64 (n0 - m)))) { w with heap := w.heap.setIfInBounds B (boOf x y T' n0 m) }
      [⟨.mark (.extern f), false, true⟩, ⟨.cell ⟨B, 2, none⟩, false, true⟩, ⟨.cell ⟨B, 2, none⟩, true, true⟩] := by
    rw [← hset]
    simp only [execOp, resolve, h0, hargs, Deferred.ofValue, invoke, callFunc, List.map_toArray]
    refine runs_bind0 (runs_pure _) ?_
    dsimp only
    refine runs_program ?_
    rw [f1]
    dsimp only
    rw [f3]
    simp only [Bool.false_eq_true, if_false, f2, if_true, f4, f5]
    refine runs_bind (l1 := [_]) runs_mark ?_
    refine runs_bind (l1 := [_, _]) (l2 := []) ?_ (runs_pure _)
    simp only [Array.empty_append, Array.append_empty]
    show RunsTo P (Extern.Atomic.update (Op.intArith .add) .i64 true #[.pointer (some ⟨B, 2, none⟩), .int .i64 1]) _ _ _ _
    unfold Extern.Atomic.update
    refine runs_bind0 (a := ⟨B, 2, none⟩) (runs_pure _) ?_
    refine runs_bind (l1 := [_]) (l2 := [_]) (w' := w) (a := .int .i64 (IntKind.wrap .i64 (n0 - (m + 1 : Nat)))) ?_ ?_
    · unfold Extern.Atomic.read
      exact runs_bind (runs_load (m := .atomic) hc) (runs_pure _)
    · refine runs_bind0 (a := IntKind.wrap .i64 (n0 - (m + 1 : Nat))) (runs_pure _) ?_
      refine runs_bind0 (a := (1 : Int)) (runs_pure _) ?_
      refine runs_bind0 (w' := w) (a := .int .i64 (IntKind.wrap .i64 (n0 - m))) ?_ ?_
      · rw [← hsum]; exact runs_pure _
      · exact runs_bind (l2 := []) (runs_store (m := .atomic) hc rfl hfz) (runs_pure _)
  obtain ⟨es, e1, e2⟩ := step_val (m := false) (l := l) (k := k) (cs := cs) (b := b) ho hw rfl r rfl
  refine ⟨_, _, es, e1, fun x hx => ?_, _, rfl⟩
  have := e2 x hx
  simp at this
  rcases this with rfl | rfl | rfl
  · exact .inl ⟨_, rfl, rfl⟩
  · exact .inr (.inl ⟨_, rfl, rfl, .inr ⟨rfl, rfl⟩⟩)
  · exact .inr (.inl ⟨_, rfl, rfl, .inr ⟨rfl, rfl⟩⟩)

/-- (R3) A send. -/
theorem does_send {x y : Operand} {v : Value} {dst : Option Tmp} (hx : Env.val E x = some (.chan (some c))) (hy : Env.val E y = some v) :
    DoesXY P (kidTgt P B bo ch c Γf (v :: vs) kk) (kidTgt P B bo ch c Γf vs kk) ⟨dst, .send x y, T, pos, af, gd⟩ E Γ (fun u Γ' => u = undef ∧ Γ' = Γ) := by
  intro b R ops i l k cs h ho hw hρ st e
  have h1 := hρ x (by simp [Op.operands]) _ hx
  have h2 := hρ y (by simp [Op.operands]) _ hy
  have hfin : Conc.served (core (gor (b.fr R (.inRegion ops (i :: l) :: k)) cs)) undef = gor (b.fr (putT R dst undef) (.inRegion ops l :: k)) cs := by
    have hf := finish_fr b R ops i l k undef
    rw [ho] at hf
    simp only [Option.bind_some] at hf
    show gor ((b.fr R (.inRegion ops (i :: l) :: k)).finish undef) cs = _
    rw [hf]
  have after := kid_of_ev (e _ _ h ⟨rfl, rfl⟩ st) ⟨_, _, rfl⟩
  refine .stop ⟨⟨_, _, rfl⟩, .node (fun y' => y' = .run ⟨vs, kk, Conc.served (core (gor (b.fr R (.inRegion ops (i :: l) :: k)) cs)) undef, h⟩ ∨ y' = .park ⟨vs, kk, Conc.served (core (gor (b.fr R (.inRegion ops (i :: l) :: k)) cs)) undef, h⟩ (gor (b.fr R (.inRegion ops (i :: l) :: k)) cs) v (.tuple #[])) (fun s e => by cases e; rfl)
    (.send (.tuple #[]) (fun w hw' => ?_) (.inl rfl) (.inr rfl)) (fun y' hy' => ?_)⟩
  · have r : RunsTo P (execOp (evT R) ⟨dst, .send x y, T, pos, af, gd⟩) w (.comm #[scase c v (.tuple #[])] true .send) w [] := by
      simp only [execOp, h1, h2]
      exact runs_pure _
    obtain ⟨es, e1, e2⟩ := step_com (m := false) (l := l) (k := k) (cs := cs) (b := b) ho hw rfl r
    exact ⟨es, e1, fun x hx => by have := e2 x hx; cases this⟩
  · rcases hy' with rfl | rfl
    · rw [hfin]; exact after
    · exact .node (fun y' => y' = .run ⟨vs, kk, Conc.served (core (gor (b.fr R (.inRegion ops (i :: l) :: k)) cs)) undef, h⟩) (fun s e => by cases e) (.park rfl rfl) (fun y' hy' => by subst hy'; rw [hfin]; exact after)

theorem runs_results {fn : Func} {R : Array Value} (hr : fn.results = #[]) (w : World) : RunsTo P (results fn R) w (.tuple #[]) w [] := by
  unfold results
  rw [hr]
  refine runs_bind0 (a := #[]) ?_ (runs_pure _)
  rw [Array.mapM_empty]
  exact runs_pure _

/-- (R4) The channel is closed, and no more is done. -/
theorem rg_shClose {bb : Bool} {x : Operand} {at' : Array TypeId} {dst : Option Tmp} {fn : Func} (hf : P.funcs[b.fn]? = some fn) (hr : fn.results = #[]) (hk : b.kind = .deferred) (hd : b.defers = []) (hro : b.ro = none) (hx : Env.val E x = some (.chan (some (ch bb))))
    (hg : GuardOK ops ⟨dst, .call ⟨.builtin .close, ⟨[x]⟩, at'⟩, T, pos, af, gd⟩ E := by first | exact trivial | exact ⟨_, rfl, rfl⟩) :
    Rg P (kidTgt P B bo ch (ch bb) Γ [] 0) b n false ops lo [] fl E [⟨dst, .call ⟨.builtin .close, ⟨[x]⟩, at'⟩, T, pos, af, gd⟩] [] [gxFrame P []] Γ := by
  intro hrem hex R h t st
  obtain ⟨ho, hrem'⟩ := remOf_static hrem
  have hlt := lt_of_get? ho
  have hlast : List.range' (lo + 1) (ops.size - (lo + 1)) = [] := by
    have h1 : ops.size - (lo + 1) = 0 := by
      have := congrArg List.length hrem'
      simp [remOf] at this
      omega
    rw [h1]; rfl
  rw [range'_head hlt, hlast]
  have hw := wanted_of t hg
  have h1 : evT R x = .chan (some (ch bb)) := evT_of t hx
  refine .stop ⟨⟨_, _, rfl⟩, .node (fun y' => y' = .shut h) (fun s e => by cases e; rfl) (.shut ?_ (fun w a r tm hs hb => ?_) rfl) (fun y' hy' => by subst hy'; exact .node (fun y => y = .gone) (fun s e => by cases e) (.gone ⟨h, st, .refl _⟩ rfl) (fun y hy => by subst hy; exact .node (fun _ => False) (fun s e => by cases e) .done (fun _ h => h.elim)))⟩
  · simp [mayWake, gor, Base.fr, ho]
  · have r' : RunsTo P (execOp (evT R) ⟨dst, .call ⟨.builtin .close, ⟨[x]⟩, at'⟩, T, pos, af, gd⟩) w (.value (.tuple #[])) (w.shut (ch bb) a r tm) [⟨.obj (ch bb), false, true⟩, ⟨.obj (ch bb), true, true⟩] := by
      simp only [execOp, resolve, invoke, List.map_toArray, List.map_cons, List.map_nil, h1]
      refine runs_bind0 (runs_pure _) ?_
      dsimp only
      show RunsTo P (Builtin.close_ at' T #[.chan (some (ch bb))] >>= fun a => pure (Next.value a)) _ _ _ _
      refine runs_bind (l1 := [_, _]) (l2 := []) (w' := w.shut (ch bb) a r tm) (a := .tuple #[]) ?_ (runs_pure _)
      unfold Builtin.close_
      refine runs_bind (l1 := [_]) (l2 := [_]) (w' := w) (runs_getObj hb rfl) ?_
      dsimp only
      simp only [Bool.false_eq_true, if_false]
      exact runs_bind (l2 := []) (runs_setObj hb rfl) (runs_pure _)
    have he := step_val_ex (m := false) (l := []) (k := []) (cs := [gxFrame P []]) (b := b) ho hw rfl r' rfl
    rw [hk] at he
    have hs2 : seen P b.fn (if CallKind.deferred == .early then #[] else (#[⟨.obj (ch bb), false, true⟩, ⟨.obj (ch bb), true, true⟩] : Array Event)) = (#[⟨.obj (ch bb), false, true⟩] : Array Event).push ⟨.obj (ch bb), true, true⟩ := by
      unfold seen
      simp
    refine ⟨_, #[⟨.obj (ch bb), false, true⟩], 4, he.trans (congrArg _ hs2), fun x hx => ?_, ?_⟩
    · simp at hx; subst hx
      exact .inr (.inr (.inr ⟨bb, rfl, rfl⟩))
    · refine .inr ⟨rfl, gor (b.fr (putT R dst (.tuple #[])) []) [gxFrame P []], fun w => by simp [stepG, stepG.exec, gor, Base.fr], ?_⟩
      refine .inr ⟨rfl, gor { b.fr (putT R dst (.tuple #[])) [] with mode := .returning } [gxFrame P []], fun w => by simp [stepG, stepG.exec, gor, Base.fr, hro], ?_⟩
      refine .inr ⟨rfl, gor (gxFrame P []) [], fun w => ?_, ?_⟩
      · have r1 := runs_results (P := P) (fn := fn) (R := putT R dst (.tuple #[])) hr w #[]
        have f4 : P.funcs[b.fn]? = some fn := hf
        simp only [gor, stepG, unwind, Base.fr, hd, f4, doReturn, hk]
        rw [r1]
        simp [GStep.after, gxFrame, seen, goexitEntry]
      · refine .inr ⟨rfl, { gor (gxFrame P []) [] with status := .finished }, fun w => ?_, rfl⟩
        have h0 : (default : Frame).todo = [] := rfl
        simp [stepG, unwind, gor, gxFrame, goexitEntry, Frame.catches, h0]
end

end Go.Lx

namespace Go.Lx
open Go Go.Conc

/-- A call of f: it begins under X and returns under Y. -/
def CallsXY (P : Program) (X Y : Tgt) (f : FuncId) (args : Array Value) (Γ : List Ch) (φ : Value → List Ch → Prop) : Prop :=
  ∀ (cs : List Frame) (h : LH), Star Γ h →
    (∀ fr v Γ' h', φ v Γ' → Retd P f v Γ' fr → Star Γ' h' → Ev P Y (gor fr cs) h') → Ev P X (gor (Frame.enter P f args .normal) cs) h

section
variable {P : Program} {X Y : Tgt} {b : Base} {n : Nat} {dr : Bool} {ops : Array Oper} {lo : Nat} {ex : List Nat} {fl : Floats} {E : Env} {rem : List Oper} {k : List Item} {cs : List Frame} {Γ : List Ch}
variable {d : Nat} {T : TypeId} {pos : String} {af : Array Edge} {gd : Option (Nat × Bool)}

theorem does_callXY {f : FuncId} {args : List Operand} {at' : Array TypeId} {vs : List Value} {φ : Value → List Ch → Prop} {dst : Option Tmp} [hb : HasBody P f] (ha : vals E args = some vs) (hc : CallsXY P X Y f vs.toArray Γ φ) :
    DoesXY P X Y ⟨dst, .call ⟨.value (.func f), ⟨args⟩, at'⟩, T, pos, af, gd⟩ E Γ φ := by
  intro b R ops i l k cs h ho hw hρ st e
  obtain ⟨fn, f1, f2, f3⟩ := hb.eq
  refine ev_op ho hw rfl ?_
  have hargs : args.map (evT R) = vs := vals_map args vs (fun x hx => hρ x (by simp [Op.operands, Call.operands, hx])) ha
  simp only [execOp, resolve, wpE_bind', evT, Deferred.ofValue, wpE_pure, invoke, callFunc, program, wpE, f1, f3]
  have hnone : fn.body.isNone = false := by cases h : fn.body <;> simp [h] at f2 ⊢
  simp only [Bool.false_eq_true, if_false, hnone, wpE_pure, NxOK, List.map_toArray, hargs]
  have := hc (b.fr R (.inRegion ops (i :: l) :: k) :: cs) h st
  simp only [List.append_toArray, List.nil_append, List.append_nil]
  refine this fun fr v Γ' h' hφ hr hs => ev_return hr hs ?_
  rw [finish_fr, ho]
  exact e v Γ' h' hφ hs

theorem rg_callXY {f : FuncId} {args : List Operand} {at' : Array TypeId} {vs : List Value} {φ : Value → List Ch → Prop} [hb : HasBody P f] (ha : vals E args = some vs) (hc : CallsXY P X Y f vs.toArray Γ φ)
    (e : ∀ v Γ', φ v Γ' → Rg P Y b n dr ops (lo + 1) ex [] ((d, v) :: E) rem k cs Γ')
    (hdn : d < n := by decide) (hex : NotYet ex lo := trivial) (hg : GuardOK ops ⟨some d, .call ⟨.value (.func f), ⟨args⟩, at'⟩, T, pos, af, gd⟩ E := by first | exact trivial | exact ⟨_, rfl, rfl⟩)
    (hl : dr = false ∨ (chkLast ops lo ex = true ∧ chkAnc ops lo ex = true) := by first | exact .inl rfl | exact .inr ⟨by decide +kernel, by decide +kernel⟩) :
    Rg P X b n dr ops lo ex fl E (⟨some d, .call ⟨.value (.func f), ⟨args⟩, at'⟩, T, pos, af, gd⟩ :: rem) k cs Γ :=
  rg_loudXY (fun d' e => by cases e; exact hdn) hex hg hl (does_callXY ha hc) e
end

theorem calls_of_bodyXY {P : Program} {X Y : Tgt} {f : FuncId} {fn : Func} {c : Code} {args : List Value} {Γ : List Ch} {φ : Value → List Ch → Prop} {nt : Nat} (hf : P.funcs[f]? = some fn) (hb : fn.body = some c) (hn : fn.ntmps = nt)
    (h : ∀ (cs : List Frame), (∀ fr v Γ' h', φ v Γ' → Retd P f v Γ' fr → Star Γ' h' → Ev P Y (gor fr cs) h') →
      Ex P X ⟨f, .normal, none, []⟩ nt (envOf 0 args) [.code c] cs Γ) (ha' : Nat.ble args.length nt = true := by rfl) : CallsXY P X Y f args.toArray Γ φ := by
  have ha : args.length ≤ nt := Nat.le_of_ble_eq_true ha'
  intro cs hh s ret
  have e : Frame.enter P f args.toArray .normal = (Base.mk f .normal none []).fr (args.toArray ++ Array.replicate (fn.ntmps - args.toArray.size) undef) [.code c] := by
    simp [Frame.enter, Base.fr, hf, hb]
  rw [e]
  refine h cs ret _ hh ⟨by simp; omega, ?_⟩ s
  intro i v hv
  obtain ⟨_, h2⟩ := envOf_get _ _ _ _ hv
  have hl : i < args.length := by
    rcases Nat.lt_or_ge i args.length with hl | hl
    · exact hl
    · simp [List.getElem?_eq_none hl] at h2
  rw [Array.getElem?_append_left (by simpa using hl)]
  simpa using h2

end Go.Lx

namespace Go.Br
open Go Go.Lx Go.Proofs
open Go.Lx renaming rg_move → zA, rg_int → zB, rg_nilCheck → zC, rg_fieldAddr0 → zD, rg_fieldAddr → zE, rg_load → zF, rg_assign → zG, rg_loadAgg → zH, rg_extract → zI, rg_not → zJ, rg_pick → zK, rg_off → zL, rg_offU → zM, rg_store → zN, rg_storeAgg → zO, rg_convInt → zP, rg_done → zQ, ex_seq → zR, rg_start_s → zS, rg_start_d → zT, ex_cond_true → zU, ex_cond_false → zV, rg_alloc → zW, rg_boxAgg → zX, rg_build → zY, rg_lenSl → zZ, rg_lenMap → yA, ex_skip → yB, ex_block → yC, ex_inBlock → yD, ex_exit → yE, rg_caseG → yZ
set_option maxRecDepth 100000

section
variable {B : Nat} {ch : Bool → Nat} {c : Nat} {Γf : List Ch} {vs : List Value} {kk : Nat} {c0 c1 : Nat} {n0 : Int}

/-- The bridge's block, as the children share it. -/
abbrev brBo (c0 c1 : Nat) (n0 : Int) : Nat → Obj := boOf (ptrV c0) (ptrV c1) 106 n0

abbrev kidB (B : Nat) (c0 c1 : Nat) (n0 : Int) (ch : Bool → Nat) (c : Nat) (Γf : List Ch) (vs : List Value) (k : Nat) : Tgt := kidTgt Try.prog B (brBo c0 c1 n0) ch c Γf vs k

theorem add64_kid (Γ : List Ch) :
    CallsXY Try.prog (kidB B c0 c1 n0 ch c Γf vs (kk + 1)) (kidB B c0 c1 n0 ch c Γf vs kk) 59 #[.pointer (some ⟨B, 2, none⟩), .int .i64 1] Γ
      (fun v Δ => ∃ w, v = .int .i64 w ∧ Δ = Γ) := by
  refine calls_of_bodyXY (args := [.pointer (some ⟨B, 2, none⟩), .int .i64 1]) Try.func59 rfl Try.ntmps59 fun cs ret => ?_
  repeat (first|refine zA rfl ?_|refine zC rfl ?_|refine zD rfl ?_|refine zG rfl ?_|refine zQ ?_|refine zR ?_|refine zS ?_)
  refine rg_loudXY (φ := fun v Γ' => (∃ a, v = .int .i64 a) ∧ Γ' = Γ) (fun d' e => by cases e; decide) trivial trivial (.inl rfl) (does_shAdd rfl) ?_
  rintro _ _ ⟨⟨a, rfl⟩, rfl⟩
  repeat (first|refine zG rfl ?_|refine zQ ?_)
  exact ex_retc ret Try.func59 rfl ⟨_, rfl, rfl⟩

/-- 'do', of a child: it is counted where all share. -/
theorem bdo_kid (c' hb : Nat) (hp : Bool) (s : Cn) (kn : Hd) (x : Stp) (ps : List Nat) (xs : List Hd) (N : Nat) (Γ : List Ch) (ok : Ok N s) (okk : OkHd N kn) (hN : N < 100000000) (hx : 0 ≤ x.n ∧ x.n < 18446744073709551616) (hkn : kn.height = s.known) (hl : ps.length = xs.length) (hxl : xs.length < 1000000000) :
    CallsXY Try.prog (kidB B c0 c1 n0 ch c Γf vs (if (step s x kn xs.length).2.2 = 0 then kk + 1 else kk)) (kidB B c0 c1 n0 ch c Γf vs kk) 42 #[ptrV B, ptrV c', stV x, .slice (some ⟨hb, 0, none⟩) xs.length xs.length] (.pr (ChainAt c' s kn) :: .pt hb hp (.cells ⟨ps.map ptrV⟩ 111 (0, 0)) :: .pr (HeadsAt ps xs) :: Γ)
      (fun v Δ => v = .tuple #[.int .u64 (step s x kn xs.length).2.1, .int .i64 (step s x kn xs.length).2.2] ∧
        Δ = .pr (ChainAt c' (step s x kn xs.length).1 (stepKn s x kn xs)) :: .pt hb hp (.cells ⟨ps.map ptrV⟩ 111 (0, 0)) :: .pr (HeadsAt ps xs) :: Γ) := by
  refine calls_of_bodyXY (args := [ptrV B, ptrV c', stV x, .slice (some ⟨hb, 0, none⟩) xs.length xs.length]) Try.func42 rfl Try.ntmps42 fun cs ret => ?_
  refine ex_seq (rg_start_s (rg_boxAgg rfl fun b1 => ?_))
  repeat (first|refine zA rfl ?_|refine zG rfl ?_|refine zH rfl ?_|refine zQ ?_|refine zR ?_|refine zS ?_)
  (refine Rg.front 0 ?_; refine Rg.front 3 ?_; refine Rg.front 3 ?_; refine Rg.front 3 ?_)
  refine rg_call rfl (do_ok c' hb hp s kn x ps xs N _ ok okk hN hx hkn hl hxl) ?_
  rintro _ _ ⟨rfl, rfl⟩
  refine ⟨.inl rfl, ?_⟩
  repeat (first|refine zA rfl ?_|refine zB rfl rfl rfl ?_|refine zG rfl ?_|refine zI rfl rfl ?_|refine zQ ?_|refine zR ?_|refine zS ?_)
  refine ex_cond_split rfl (fun h1 => ?_) (fun h1 => ?_)
  · have h1 := of_decide_eq_true h1
    rw [if_pos h1]
    repeat (first|refine zA rfl ?_|refine zC rfl ?_|refine zE rfl ?_|refine zS ?_)
    refine rg_callXY rfl (add64_kid _) ?_
    rintro _ _ ⟨w, rfl, rfl⟩
    repeat (first|refine zA rfl ?_|refine zG rfl ?_|refine zQ ?_|refine zR ?_|refine zS ?_)
    (refine Ex.front 2 ?_; refine Ex.front 2 ?_; refine Ex.front 2 ?_; refine Ex.front 3 ?_)
    exact ex_rete ret Try.func42 rfl (Ent.drop (Ent.refl _)) ⟨rfl, rfl⟩
  · have h1 := of_decide_eq_false h1
    rw [if_neg h1]
    repeat (first|refine zA rfl ?_|refine zG rfl ?_|refine zQ ?_|refine zR ?_|refine zS ?_|refine yB ?_)
    (refine Ex.front 2 ?_; refine Ex.front 2 ?_; refine Ex.front 2 ?_; refine Ex.front 3 ?_)
    exact ex_rete ret Try.func42 rfl (Ent.drop (Ent.refl _)) ⟨rfl, rfl⟩
end
end Go.Br

namespace Go.Lx
open Go Go.Conc

/-! ### heaps kept aside -/

theorem Join.hold {h1 h2 h : LH} (j : Join h1 h2 h) {b : Nat} {o : Obj} (e : h1 b = some (true, o)) : h2 b = none := by
  rcases j b with ⟨x, _⟩ | ⟨x, _⟩ | ⟨o', x, _⟩
  · rw [e] at x; cases x
  · exact x
  · rw [e] at x; cases x

theorem Join.none_ {h1 h2 h : LH} (j : Join h1 h2 h) {b : Nat} (e : h b = none) : h1 b = none ∧ h2 b = none := by
  rcases j b with ⟨x, y⟩ | ⟨x, y⟩ | ⟨o', x, _, z⟩
  · exact ⟨x, by rw [← y]; exact e⟩
  · exact ⟨by rw [← y]; exact e, x⟩
  · rw [e] at z; cases z

theorem join_empty (h : LH) : Join h (fun _ => none) h := fun _ => .inr (.inl ⟨rfl, rfl⟩)
theorem Join.of_empty {h hj : LH} (j : Join h (fun _ => none) hj) : hj = h := funext fun b => by
  rcases j b with ⟨x, y⟩ | ⟨_, y⟩ | ⟨o, _, y, _⟩
  · rw [x, y]
  · exact y
  · cases y

/-- Less on both sides is joined too. -/
theorem Join.less {h h' r r' hj : LH} (j : Join h' r' hj) (l : h.Le h') (m : r.Le r') : ∃ q, Join h r q ∧ q.Le hj := by
  refine ⟨fun b => match h b with | some x => some x | none => r b, fun b => ?_, fun b p o e => ?_⟩
  · cases e1 : h b with
    | none => exact .inl ⟨rfl, by simp [e1]⟩
    | some x =>
      obtain ⟨p, o⟩ := x
      cases e2 : r b with
      | none => exact .inr (.inl ⟨rfl, by simp [e1]⟩)
      | some y =>
        obtain ⟨p2, o2⟩ := y
        obtain ⟨p', e3, q3⟩ := l _ _ _ e1
        obtain ⟨p'', e4, q4⟩ := m _ _ _ e2
        rcases j b with ⟨x, _⟩ | ⟨x, _⟩ | ⟨o', x, y, z⟩
        · rw [e3] at x; cases x
        · rw [e4] at x; cases x
        · rw [e3] at x; rw [e4] at y; cases x; cases y
          have hp : p = false := by cases p; rfl; exact absurd (q3 rfl) (by simp)
          have hp2 : p2 = false := by cases p2; rfl; exact absurd (q4 rfl) (by simp)
          subst hp hp2
          exact .inr (.inr ⟨_, rfl, rfl, by simp [e1]⟩)
  · dsimp only at e
    cases e1 : h b with
    | some x =>
      rw [e1] at e; cases e
      obtain ⟨p', e3, q3⟩ := l _ _ _ e1
      obtain ⟨p'', e4, q4⟩ := j.le_left _ _ _ e3
      exact ⟨p'', e4, fun hp => q4 (q3 hp)⟩
    | none =>
      rw [e1] at e
      obtain ⟨p', e3, q3⟩ := m _ _ _ e
      obtain ⟨p'', e4, q4⟩ := j.le_right _ _ _ e3
      exact ⟨p'', e4, fun hp => q4 (q3 hp)⟩

/-- What a step does with a heap it does beside another. -/
theorem StepOK.beside {P : Program} {m : Bool} {g : Goroutine} {h R hj : LH} {K : Goroutine → LH → Prop} (st : StepOK P m g h K) (j : Join h R hj) : StepOK P m g hj (fun g' hj' => ∃ h', K g' h' ∧ Join h' R hj') := by
  intro w hw
  obtain ⟨fr, cs, w', h', es, e1, u, ev, k⟩ := st w (j.le_left.sub hw)
  let hj' : LH := fun b => match h' b with | some x => some x | none => R b
  have hnone : ∀ b, h' b = none → h b = none := fun b e => by
    cases e9 : h b with
    | none => rfl
    | some po => obtain ⟨p0, o0⟩ := po; obtain ⟨o1, e4, _⟩ := u.perm _ _ _ e9; rw [e] at e4; cases e4
  have jj : Join h' R hj' := fun b => by
    cases e2 : R b with
    | none =>
      refine .inr (.inl ⟨rfl, ?_⟩)
      simp only [hj']
      cases e3 : h' b with
      | none => exact e2
      | some x => rfl
    | some x =>
      obtain ⟨p, o⟩ := x
      rcases j b with ⟨y, z⟩ | ⟨y, _⟩ | ⟨o', y, y2, z⟩
      · have e3 : h' b = none := by
          cases e3 : h' b with
          | none => rfl
          | some x =>
            obtain ⟨p', o'⟩ := x
            have h1 := (u.new b p' o' y e3).1
            have h2 := lt_of_heap (hw b p o (by rw [z, e2]))
            omega
        exact .inl ⟨e3, by simp only [hj', e3]; exact e2⟩
      · rw [e2] at y; cases y
      · obtain ⟨o1, e4, q4⟩ := u.perm _ _ _ y
        have := q4 rfl
        subst this
        rw [e2] at y2; cases y2
        exact .inr (.inr ⟨_, e4, rfl, by simp only [hj', e4]⟩)
  refine ⟨fr, cs, w', hj', es, e1, ⟨fun b p o e => ?_, u.size, fun b p o e => ?_, fun b p o e e' => ?_, fun b hb e => u.keep b hb (j.none_ e).1, u.os, u.output, u.tape, u.drawn⟩, fun x hx => (ev x hx).le jj.le_left, h', k, jj⟩
  · simp only [hj'] at e
    cases e7 : h' b with
    | some po => rw [e7] at e; cases e; exact u.sub _ _ _ e7
    | none =>
      rw [e7] at e
      have hb : hj b = some (p, o) := by
        rcases j b with ⟨_, z⟩ | ⟨y, _⟩ | ⟨o', y, _⟩
        · rw [z]; exact e
        · rw [show R b = some (p, o) from e] at y; cases y
        · rw [hnone b e7] at y; cases y
      have := hw b p o hb
      rw [u.keep b (lt_of_heap this) (hnone b e7)]; exact this
  · rcases j b with ⟨y, z⟩ | ⟨y, z⟩ | ⟨o', y, y2, z⟩
    · rw [z] at e
      exact ⟨o, jj.comm.get e, fun _ => rfl⟩
    · rw [z] at e
      obtain ⟨o1, e4, q4⟩ := u.perm _ _ _ e
      exact ⟨o1, jj.get e4, q4⟩
    · rw [z] at e; cases e
      exact ⟨_, jj.comm.get y2, fun _ => rfl⟩
  · obtain ⟨n1, n2⟩ := j.none_ e
    have : h' b = some (p, o) := by
      simp only [hj'] at e'
      cases e7 : h' b with
      | some po => rw [e7] at e'; exact e'
      | none => rw [e7, n2] at e'; cases e'
    exact u.new b p o n1 this

def LH.del (h : LH) (x : Nat) : LH := fun y => if y = x then none else h y
theorem LH.del_le (h : LH) (x : Nat) : (h.del x).Le h := fun b p o e => by
  unfold LH.del at e
  split at e
  · cases e
  · exact ⟨p, e, id⟩
theorem LH.del_mono {h h' : LH} (l : h.Le h') (x : Nat) : (h.del x).Le (h'.del x) := fun b p o e => by
  unfold LH.del at e ⊢
  split at e
  · cases e
  · rename_i n; rw [if_neg n]; exact l _ _ _ e

theorem Star.cut {x : Nat} {o : Obj} {Γ : List Ch} {h : LH} (s : Star (.pt x true o :: Γ) h) : Star Γ (h.del x) := by
  obtain ⟨h1, h2, j, sa, sg⟩ := s
  have sa : h1 x = some (true, o) := sa
  refine Star.more (h1 := h2) (h2 := h1.del x) (fun y => ?_) sg
  unfold LH.del
  by_cases e : y = x
  · subst e; exact .inl ⟨j.hold sa, by simp⟩
  · rw [if_neg e, if_neg e]; exact j.comm y

theorem join_del {h : LH} {x : Nat} {p : Bool} {o : Obj} (e : h x = some (p, o)) : Join (h.del x) (fun y => if y = x then some (p, o) else none) h := fun y => by
  unfold LH.del
  by_cases k : y = x
  · subst k; exact .inl ⟨by simp, by simp [e]⟩
  · exact .inr (.inl ⟨by simp [k], by simp [k]⟩)

/-! ### the starter's target -/

section
variable {P : Program} {B : Nat} {bo : Nat → Obj} {ch : Bool → Nat} {zz : Bool → Value} {Fin : Bool → LH → Prop} {K : Goroutine → LH → Prop}

variable (P B bo ch zz Fin K) in
def mainTgt (sd : Bool → Sd) (R : LH) : Tgt :=
  ⟨true, fun g h => ∀ h' hj, h.Le h' → Join h' R hj → MainT P B bo ch zz Fin K ⟨sd, g, hj⟩, fun _ _ _ s l h' hj l' => s h' hj (l.trans l')⟩

theorem main_of_ev {sd : Bool → Sd} {R : LH} {g : Goroutine} {h : LH} (e : Ev P (mainTgt P B bo ch zz Fin K sd R) g h) : (∃ fr cs, g = gor fr cs) → ∀ hj, Join h R hj → MainT P B bo ch zz Fin K ⟨sd, g, hj⟩ := by
  induction e with
  | stop s => exact fun _ hj j => s _ hj (.refl _) j
  | @step g h K' hk hn ih =>
    rintro ⟨fr, cs, rfl⟩ hj j
    refine .node (fun y => ∃ g' hj' h', y = ⟨sd, g', hj'⟩ ∧ K' g' h' ∧ Join h' R hj' ∧ ∃ fr cs, g' = gor fr cs) rfl (.own fun w hw => ?_) (fun y ⟨g', hj', h', e, kk, jj, hg⟩ => by subst e; exact ih g' h' kk hg hj' jj)
    obtain ⟨fr', cs', w', h', es, e1, u, ev, h2, kk, jj⟩ := hk.beside j w hw
    exact ⟨fr', cs', w', h', es, e1, u, ev, _, _, h2, rfl, kk, jj, _, _, rfl⟩

/-- Where the company has ended, the target before goes on. -/
def endK (P : Program) (X : Tgt) (B : Nat) (bo : Nat → Obj) : Goroutine → LH → Prop := fun g h1 => ∀ h', h1 B = none → h' B = some (true, bo 0) → h1.Le h' → Ev P X g h'

section
variable {X : Tgt} {b : Base} {n : Nat} {E : Env} {k : List Item} {cs : List Frame} {Γ : List Ch}

/-- (M1) The company is entered. -/
theorem ex_company {vs : Bool → List Value} {kk : Bool → Nat} {A0 A1 : LH → Prop} {s0 r0 s1 r1 : Nat} {t0 t1 : Bool} (hX : Co P X)
    (e : ∀ R0 R1 R, A0 R0 → A1 R1 → Join R0 R1 R → Ex P (mainTgt P B bo ch zz Fin (endK P X B bo) (fun b => .off (vs b) (kk b)) R) b n E k cs Γ) :
    Ex P X b n E k cs (.pt B true (bo (kk false + kk true)) :: .pt (ch false) true (.chan 0 #[] false s0 r0 t0) :: .pt (ch true) true (.chan 0 #[] false s1 r1 t1) :: .pr A0 :: .pr A1 :: Γ) := by
  intro tmps h t s
  have hB := Star.mem (List.mem_cons_self ..) s
  have s1' := s.cut
  have h0 := Star.mem (List.mem_cons_self ..) s1'
  have s2 := s1'.cut
  have h1 := Star.mem (List.mem_cons_self ..) s2
  have s3 := s2.cut
  have n0 : ch false ≠ B := fun e => by unfold LH.del at h0; rw [if_pos e] at h0; cases h0
  have n1 : ch true ≠ ch false := fun e => by unfold LH.del at h1; rw [if_pos e] at h1; cases h1
  have h1' : (h.del B) (ch true) = some (true, .chan 0 #[] false s1 r1 t1) := by unfold LH.del at h1 ⊢; rw [if_neg n1] at h1; exact h1
  have n2 : ch true ≠ B := fun e => by unfold LH.del at h1'; rw [if_pos e] at h1'; cases h1'
  have g0 : h (ch false) = some (true, .chan 0 #[] false s0 r0 t0) := by unfold LH.del at h0; rw [if_neg n0] at h0; exact h0
  have g1 : h (ch true) = some (true, .chan 0 #[] false s1 r1 t1) := by unfold LH.del at h1'; rw [if_neg n2] at h1'; exact h1'
  obtain ⟨R0, r', j1, a0, R1, hΓ, j2, a1, sΓ⟩ := s3
  obtain ⟨R, jR, jj⟩ := j2.comm.assoc j1.comm
  have hm0 : ∀ x, Offs B ch x → ((h.del B).del (ch false)).del (ch true) x = none := fun x ox => by
    unfold LH.del
    rcases ox with rfl | ⟨b, rfl⟩
    · rw [if_neg (fun e => n2 e.symm), if_neg (fun e => n0 e.symm), if_pos rfl]
    · cases b
      · rw [if_neg (fun e => n1 e.symm), if_pos rfl]
      · rw [if_pos rfl]
  have hm1 : ∀ x, ¬ Offs B ch x → ((h.del B).del (ch false)).del (ch true) x = h x := fun x ox => by
    unfold LH.del
    rw [if_neg (fun e => ox (.inr ⟨true, e⟩)), if_neg (fun e => ox (.inr ⟨false, e⟩)), if_neg (fun e => ox (.inl e))]
  have m := main_of_ev (e R0 R1 R a0 a1 jR.comm tmps hΓ t sΓ) ⟨_, _, rfl⟩ _ jj
  have hc : ∀ b, ∃ s r tm, h (ch b) = some (true, .chan 0 #[] false s r tm) := fun b => by
    cases b
    · exact ⟨_, _, _, g0⟩
    · exact ⟨_, _, _, g1⟩
  exact hX.2 _ h _ (company_epi hB hc ⟨fun e => n1 e.symm, n0, n2⟩ hm0 hm1 m) (fun g' h' ⟨h1, kk, _, nn, bb, l⟩ => kk h' nn bb l)

/-- (M2) The company is left. -/
theorem ex_leave {sd : Bool → Sd} (hs : ∀ b, sd b = .gone) (e : Ex P X b n E k cs (.pt B true (bo 0) :: Γ)) : Ex P (mainTgt P B bo ch zz Fin (endK P X B bo) sd (fun _ => none)) b n E k cs Γ := by
  intro tmps h t s
  refine .stop fun h' hj l j => ?_
  have := j.of_empty
  subst this
  refine .node (fun _ => False) rfl (.done hs fun h2 nn bb l2 => ?_) (fun _ h => h.elim)
  have nn : hj B = none := nn
  have hn : h B = none := by
    cases e0 : h B with
    | none => rfl
    | some po => obtain ⟨p, o⟩ := po; obtain ⟨p', e2, _⟩ := l _ _ _ e0; rw [nn] at e2; cases e2
  refine (e tmps (h.put B (bo 0)) t (s.new hn)).mono fun x p o ex => ?_
  unfold LH.put at ex
  by_cases hx : x = B
  · subst hx
    rw [if_pos rfl] at ex; cases ex
    exact ⟨_, bb, fun _ => rfl⟩
  · rw [if_neg hx] at ex
    exact (l.trans l2) _ _ _ ex
end

section
variable {X : Tgt} {b : Base} {n : Nat} {dr : Bool} {ops : Array Oper} {lo : Nat} {ex : List Nat} {fl : Floats} {E : Env} {rem : List Oper} {k : List Item} {cs : List Frame} {Γ : List Ch}
variable {d : Nat} {T : TypeId} {pos : String} {af : Array Edge} {gd : Option (Nat × Bool)} {sd : Bool → Sd} {R : LH}

/-- What a go statement's goroutine begins with. -/
def kidGor (P : Program) (fn : Fn) (vs : List Value) : Goroutine := gor (gxFrame P [{ target := .fn fn ⟨vs⟩, args := #[] }]) []

/-- (M3) A child is started: it takes two cells of its own and the heap kept for it. -/
theorem does_go {bb : Bool} {vs : List Value} {kk : Nat} {f : Operand} {fn : FuncId} {caps : List Value} {at' : Array TypeId} {dst : Option Tmp} {x1 x2 : Nat} {o1 o2 : Obj} {Rk R' : LH} (hsd : sd bb = .off vs kk) (hb1 : bb = true → ∀ vs k, sd false ≠ .off vs k)
    (hf : Env.val E f = some (.func (.func fn) #[] ⟨caps⟩)) (jR : Join Rk R' R)
    (kid : ∀ hc, Star [.pt x1 true o1, .pt x2 true o2, .pr (fun h => h = Rk)] hc → Kid P B bo ch (ch bb) (Fin bb) (.run ⟨vs, kk, kidGor P (.func fn) caps, hc⟩)) :
    DoesXY P (mainTgt P B bo ch zz Fin K sd R) (mainTgt P B bo ch zz Fin K (fun b' => if b' = bb then .on vs else sd b') R') ⟨dst, .go ⟨.value f, ⟨[]⟩, at'⟩, T, pos, af, gd⟩ E (.pt x1 true o1 :: .pt x2 true o2 :: Γ) (fun u Γ' => u = undef ∧ Γ' = Γ) := by
  intro b R2 ops i l k cs h ho hw hρ st e
  have hfv : evT R2 f = .func (.func fn) #[] ⟨caps⟩ := hρ f (by simp [Op.operands, Call.operands]) _ hf
  have e1 := Star.mem (List.mem_cons_self ..) st
  have st1 := st.cut
  have e2 := Star.mem (List.mem_cons_self ..) st1
  have st2 := st1.cut
  have n21 : x2 ≠ x1 := fun q => by unfold LH.del at e2; rw [if_pos q] at e2; cases e2
  refine .stop fun h' hj le j => ?_
  have le1 : h' x1 = some (true, o1) := by obtain ⟨p', q1, q2⟩ := le _ _ _ e1; rw [q2 rfl] at q1; exact q1
  have le2 : (h'.del x1) x2 = some (true, o2) := by obtain ⟨p', q1, q2⟩ := LH.del_mono le x1 _ _ _ e2; rw [q2 rfl] at q1; exact q1
  -- the heaps
  obtain ⟨c1, J1, J2⟩ := (join_del le2).assoc (join_del le1)
  obtain ⟨q, J3, J4⟩ := J2.assoc j
  obtain ⟨q2, J5, J6⟩ := jR.comm.assoc J3.comm
  obtain ⟨q3, J7, J8⟩ := J6.comm.assoc J4.comm
  have hcS : Star [.pt x1 true o1, .pt x2 true o2, .pr (fun h => h = Rk)] q2 := by
    obtain ⟨r, k1, k2⟩ := J1.comm.assoc J5.comm
    refine ⟨_, r, k2, by simp [Ch.sat], _, Rk, k1, by simp [Ch.sat], Rk, fun _ => none, join_empty _, rfl, trivial⟩
  have main := e undef Γ _ ⟨rfl, rfl⟩ st2
  have main' := main_of_ev (main.mono (LH.del_mono (LH.del_mono le x1) x2)) ⟨_, _, rfl⟩ q3 J7.comm
  refine .node (fun y => y = ⟨fun b' => if b' = bb then .on vs else sd b', gor (b.fr (putT R2 dst undef) (.inRegion ops l :: k)) cs, q3⟩) rfl (.fork bb hsd hb1 rfl (fun w hs => ?_) J8.comm (kid q2 hcS) rfl) (fun y hy => by subst hy; exact main')
  have r : RunsTo P (execOp (evT R2) ⟨dst, .go ⟨.value f, ⟨[]⟩, at'⟩, T, pos, af, gd⟩) w (.spawn { target := .fn (.func fn) ⟨caps⟩, args := #[] }) w [] := by
    have h0 : (#[] : Array Value) ++ Array.map (evT R2) ⟨[]⟩ = #[] := by simp
    simp only [execOp, resolve, hfv, Deferred.ofValue, h0]
    refine runs_bind0 (runs_pure _) ?_
    exact runs_pure _
  obtain ⟨es, q1, q2⟩ := step_spn (m := true) (l := l) (k := k) (cs := cs) (b := b) ho hw rfl r rfl
  exact ⟨es, q1, fun x hx => by have := q2 x hx; cases this⟩

/-- What an operation may come to: a target, a value, chunks. -/
def DoesYs (P : Program) (X : Tgt) (o : Oper) (E : Env) (Γ : List Ch) (φ : Tgt → Value → List Ch → Prop) : Prop :=
  ∀ (b : Base) (R : Array Value) (ops : Array Oper) (i : Nat) (l : List Nat) (k : List Item) (cs : List Frame) (h : LH), ops[i]? = some o → Region.wanted o (yielded ops R) = true →
    (∀ x ∈ o.op.operands, ∀ u, Env.val E x = some u → evT R x = u) → Star Γ h →
    (∀ Y v Γ' h', φ Y v Γ' → Star Γ' h' → Ev P Y (gor (b.fr (putT R o.dst v) (.inRegion ops l :: k)) cs) h') →
    Ev P X (gor (b.fr R (.inRegion ops (i :: l) :: k)) cs) h

theorem rg_loudYs {o : Oper} {φ : Tgt → Value → List Ch → Prop} (hdn : ∀ d, o.dst = some d → d < n) (hg : GuardOK ops o E) (hdo : DoesYs P X o E Γ φ)
    (e : ∀ Y v Γ', φ Y v Γ' → Rg P Y b n false ops (lo + 1) ex [] (match o.dst with | some d => (d, v) :: E | none => E) rem k cs Γ') :
    Rg P X b n false ops lo ex fl E (o :: rem) k cs Γ := by
  intro hrem
  have hset : ∀ R v, Tms n E R → Tms n (match o.dst with | some d => (d, v) :: E | none => E) (putT R o.dst v) := by
    intro R v t
    unfold putT
    cases hd : o.dst with
    | none => exact t
    | some d => exact t.set (hdn d hd) v
  intro hx0 R h t s
  subst hx0
  obtain ⟨ho, hrem'⟩ := remOf_static hrem
  have hlt := lt_of_get? ho
  rw [range'_head hlt]
  refine hdo b R ops lo _ k cs h ho (wanted_of t hg) (fun x _ u hu => evT_of t hu) s fun Y v Γ' h' hφ s' => ?_
  exact (e Y v Γ' hφ) hrem' rfl _ h' (hset R v t) s'

theorem runs_map {α β : Type} {e : Sem α} {f : α → β} {a : α} {w w' : World} {l : List Event} (h : RunsTo P e w a w' l) : RunsTo P (Functor.map f e) w (f a) w' l := by
  have := runs_bind (f := fun x => (pure (f x) : Sem β)) h (runs_pure (f a))
  rw [List.append_nil] at this
  rw [map_eq_pure_bind]
  exact this
theorem runs_typeInfo {t : TypeId} {i : TypeInfo} {w : World} (e : P.info? t = some i) : RunsTo P (typeInfo t) w i w [] := by
  unfold typeInfo
  refine runs_program ?_
  rw [e]; exact runs_pure _
theorem runs_zero {t : TypeId} {v : Value} {w : World} [z : ZeroOf P t v] : RunsTo P (zeroValue t) w v w [] := by
  obtain ⟨i, a1, a2⟩ := z.eq
  unfold zeroValue
  refine runs_bind0 (runs_typeInfo a1) ?_
  rw [a2]; exact runs_pure _

/-- What a select brings. -/
abbrev selVal (k : Nat) (ok : Bool) (v0 v1 : Value) : Value := .tuple #[.int .i64 k, .bool ok, v0, v1]

theorem commResult_sel (sd : Bool → Sd) (ch : Bool → Nat) (zz : Bool → Value) (b : Bool) (v : Value) (ok : Bool) : commResult (selCases sd ch zz) .select (bIx b) v ok = selVal (bIx b) ok (if b then zz false else v) (if b then v else zz true) := by
  cases b <;> simp [commResult, selCases, ocase, bIx, selVal, goInt] <;> rfl

/-- (M4) The starter chooses. -/
theorem does_sel {x y : Operand} {t0 t1 : TypeId} {Γf : Bool → List Ch} {dst : Option Tmp} [z0 : ZeroOf P t0 (zz false)] [z1 : ZeroOf P t1 (zz true)] (lv : ∀ b, (sd b).live = true) (hon : ∃ b vs, sd b = .on vs)
    (hx : Env.val E x = some (.chan ((sd false).chan (ch false)))) (hy : Env.val E y = some (.chan ((sd true).chan (ch true)))) :
    DoesYs P (mainTgt P B bo ch zz (fun b => finOf (Γf b)) K sd (fun _ => none)) ⟨dst, .select #[⟨x, none, t0⟩, ⟨y, none, t1⟩] true, T, pos, af, gd⟩ E Γ
      (fun Y u Γ' => (∃ b v vs, sd b = .on (v :: vs) ∧ Y = mainTgt P B bo ch zz (fun b => finOf (Γf b)) K (fun b' => if b' = b then .on vs else sd b') (fun _ => none) ∧ u = selVal (bIx b) true (if b then zz false else v) (if b then v else zz true) ∧ Γ' = Γ) ∨
        (∃ b, sd b = .on [] ∧ Y = mainTgt P B bo ch zz (fun b => finOf (Γf b)) K (fun b' => if b' = b then .gone else sd b') (fun _ => none) ∧ u = selVal (bIx b) false (zz false) (zz true) ∧ Γ' = Γf b ++ Γ)) := by
  intro b R2 ops i l k cs h ho hw hρ st e
  have h1 := hρ x (by simp [Op.operands]) _ hx
  have h2 := hρ y (by simp [Op.operands]) _ hy
  refine .stop fun h' hj le j => ?_
  have := j.of_empty
  subst this
  have hfin : ∀ u, Conc.served (core (gor (b.fr R2 (.inRegion ops (i :: l) :: k)) cs)) u = gor (b.fr (putT R2 dst u) (.inRegion ops l :: k)) cs := fun u => by
    have hf := finish_fr b R2 ops i l k u
    rw [ho] at hf
    simp only [Option.bind_some] at hf
    show gor ((b.fr R2 (.inRegion ops (i :: l) :: k)).finish u) cs = _
    rw [hf]
  refine .node (fun y => (∃ b' v vs, sd b' = .on (v :: vs) ∧ y = MS.turn ⟨sd, gor (b.fr R2 (.inRegion ops (i :: l) :: k)) cs, hj⟩ b' (.on vs) (gor (b.fr (putT R2 dst (selVal (bIx b') true (if b' then zz false else v) (if b' then v else zz true))) (.inRegion ops l :: k)) cs) hj) ∨
      (∃ b' hc h2, sd b' = .on [] ∧ finOf (Γf b') hc ∧ Join hj hc h2 ∧ y = MS.turn ⟨sd, gor (b.fr R2 (.inRegion ops (i :: l) :: k)) cs, hj⟩ b' .gone (gor (b.fr (putT R2 dst (selVal (bIx b') false (zz false) (zz true))) (.inRegion ops l :: k)) cs) h2)) rfl
    (.sel lv hon (fun w hs => ?_) (fun b' v vs hb => .inl ⟨b', v, vs, hb, ?_⟩) (fun b' hc h2 hb hF jj => .inr ⟨b', hc, h2, hb, hF, jj, ?_⟩)) (fun y hy => ?_)
  · have r : RunsTo P (execOp (evT R2) ⟨dst, .select #[⟨x, none, t0⟩, ⟨y, none, t1⟩] true, T, pos, af, gd⟩) w (.comm (selCases sd ch zz) true .select) w [] := by
      simp only [execOp]
      refine runs_bind0 (a := selCases sd ch zz) ?_ (runs_pure _)
      rw [show (#[⟨x, none, t0⟩, ⟨y, none, t1⟩] : Array SelectCase) = [⟨x, none, t0⟩, ⟨y, none, t1⟩].toArray from rfl, List.mapM_toArray]
      simp only [List.mapM_cons, List.mapM_nil, h1, h2, Option.map_none]
      refine runs_map (a := [ocase ((sd false).chan (ch false)) (zz false), ocase ((sd true).chan (ch true)) (zz true)]) (f := List.toArray) ?_
      refine runs_bind0 (runs_bind0 runs_zero (runs_pure _)) ?_
      refine runs_bind0 (runs_bind0 (runs_bind0 runs_zero (runs_pure _)) (runs_bind0 (runs_pure _) (runs_pure _))) ?_
      exact runs_pure _
    obtain ⟨es, q1, q2⟩ := step_com (m := true) (l := l) (k := k) (cs := cs) (b := b) ho hw rfl r
    exact ⟨es, q1, fun x hx => by have := q2 x hx; cases this⟩
  · show MS.turn _ _ _ (Conc.served (core (gor (b.fr R2 (.inRegion ops (i :: l) :: k)) cs)) _) _ = _
    rw [hfin, commResult_sel]
  · show MS.turn _ _ _ (Conc.served (core (gor (b.fr R2 (.inRegion ops (i :: l) :: k)) cs)) _) _ = _
    rw [hfin, commResult_sel]
    cases b' <;> rfl
  · rcases hy with ⟨b', v, vs, hb, rfl⟩ | ⟨b', hc, h2, hb, ⟨hc0, sc, lc⟩, jj, rfl⟩
    · exact main_of_ev ((e _ _ _ h (.inl ⟨b', v, vs, hb, rfl, rfl, rfl⟩) st).mono le) ⟨_, _, rfl⟩ _ (join_empty _)
    · obtain ⟨q, jq, lq⟩ := jj.less le lc
      exact main_of_ev ((e _ _ _ q (.inr ⟨b', hb, rfl, rfl, rfl⟩) (Star.append.2 ⟨hc0, h, jq.comm, sc, st⟩)).mono lq) ⟨_, _, rfl⟩ _ (join_empty _)
end
end

section
variable {P : Program} {X : Tgt} {b : Base} {n : Nat} {dr : Bool} {ops : Array Oper} {lo : Nat} {ex : List Nat} {fl : Floats} {E : Env} {rem : List Oper} {k : List Item} {cs : List Frame} {Γ : List Ch}
variable {d : Nat} {T : TypeId} {pos : String} {af : Array Edge} {gd : Option (Nat × Bool)}

/-- A channel is made. -/
theorem rg_makeChan {t el : TypeId} {dir : ChanDir} {x : Operand} {k0 : IntKind} [u : Under P t (.chan dir el)] {m bytes : Nat} [eo : ElemOf P el m bytes] (hx : Env.val E x = some (.int k0 0))
    (e : ∀ r, Rg P X b n dr ops (lo + 1) ex fl ((d, .chan (some r)) :: E) rem k cs (.pt r true (.chan 0 #[] false 0 0 false) :: Γ))
    (hdn : d < n := by decide) (hex : NotYet ex lo := trivial) (hg : GuardOK ops ⟨some d, .makeChan t x, T, pos, af, gd⟩ E := by first | exact trivial | exact ⟨_, rfl, rfl⟩)
    (hc : dr = false ∨ chkLast ops lo ex = true := by first | exact .inl rfl | exact .inr (by decide +kernel))
    (hr : ∀ r, dr = false ∨ Reval ops ex lo fl (.pt r true (.chan 0 #[] false 0 0 false) :: Γ) := by first | exact fun _ => .inl rfl | exact fun _ => .inr (by (repeat' first | exact trivial | refine ⟨.inr ⟨_, _, _, _, Find.mem, rfl⟩, ?_⟩ | refine ⟨.inr ⟨_, _, _, _, Find.mem, inferInstance⟩, ?_⟩ | refine ⟨.inr ⟨_, Find.mem⟩, ?_⟩ | refine ⟨.inl (by decide +kernel), ?_⟩))) :
    Rg P X b n dr ops lo ex fl E (⟨some d, .makeChan t x, T, pos, af, gd⟩ :: rem) k cs Γ := by
  refine rg_loud (φ := fun u Γ' => ∃ r, u = .chan (some r) ∧ Γ' = .pt r true (.chan 0 #[] false 0 0 false) :: Γ) (fun d' e => by cases e; exact hdn) hex hg hc ?_ ?_
  · refine does_of_wp rfl fun ρ h hρ st => ?_
    have h1 := hρ x (by simp [Op.operands]) _ hx
    obtain ⟨i, z', i1, i2, i3, i4, i5⟩ := eo.eq
    simp only [execOp, wpE_bind', Instr.makeChan, h1, asInt, asIntOf, wpE_pure]
    rw [wpE_underlying u.eq]
    simp only [wpE_bind']
    rw [wpE_typeInfo i1]
    rw [if_neg (by rintro (h | h | h); exact absurd h (by decide); exact absurd h (by decide); simp at h)]
    simp only [wpE_bind', wpE_pure, newObj, wpE]
    intro r hr'
    exact ⟨_, _, rfl, ⟨r, rfl, rfl⟩, st.new hr'⟩
  · rintro u Γ' ⟨r, rfl, rfl⟩
    exact ⟨hr r, e r⟩
end
end Go.Lx
