/-
  Lemmas towards the law, proved without conditions of their own: COMPANY, FOURTEENTH PART: the bridge's children: what a list of steps answers, and that Run$1 sends it. (Printed by wip/tools/gen_cxe.py.); COMPANY, FIFTEENTH PART: the starter's rules where the children's states are two; channels against nil; a chunk that is there or not. No condition.
-/
import Derived.Test.YtedaknlacigbhaaPk25
import Derived.Test.YtedaknlacigbhaaPk19
namespace Go.Lx
open Go Go.Conc

section
variable {P : Program} {b : Base} {n : Nat} {E : Env} {k : List Item} {cs : List Frame} {Γ : List Ch}
/-- Loops that turn the target. -/
theorem ex_indX {ι : Type} {X : Tgt} (m : ι → Nat) (X' : ι → Tgt) (E' : ι → Env) (Γ' : ι → List Ch) (φ : ι → Prop) (i0 : ι) (h0 : φ i0) (x0 : X = X' i0) (s0 : Sup E (E' i0)) (g0 : Γ = Γ' i0)
    (step : ∀ i, φ i → (∀ j, φ j → m j < m i → Ex P (X' j) b n (E' j) k cs (Γ' j)) → Ex P (X' i) b n (E' i) k cs (Γ' i)) : Ex P X b n E k cs Γ := by
  have all : ∀ N i, m i < N → φ i → Ex P (X' i) b n (E' i) k cs (Γ' i) := by
    intro N
    induction N with
    | zero => intro i h; exact absurd h (Nat.not_lt_zero _)
    | succ N ih => intro i h hi; exact step i hi fun j hj hl => ih j (by omega) hj
  subst g0
  subst x0
  exact Ex.sup (all _ i0 (Nat.lt_succ_self _) h0) s0
end

theorem ent_one {c : Ch} {Γ : List Ch} : Ent (c :: Γ) [c] := fun h ⟨h1, h2, j, a, _⟩ => ⟨h1, j.le_left, h1, fun _ => none, join_empty _, a, trivial⟩

/-- The go statement's goroutine enters its function. -/
theorem kid_enter {P : Program} {f : FuncId} {caps : List Value} [hb : HasBody P f] (w : World) :
    stepG P false (kidGor P (.func f) caps) w = .go (gor (Frame.enter P f ⟨caps⟩ .deferred) [gxFrame P []]) w #[] := by
  obtain ⟨fn, f1, f2, f3⟩ := hb.eq
  have hnone : fn.body.isNone = false := by cases h : fn.body <;> simp [h] at f2 ⊢
  have r0 : RunsTo P (invoke (.fn (.func f) ⟨caps⟩) #[]) w (.enter f ⟨caps⟩) w [] := by
    simp only [invoke, callFunc]
    refine runs_program ?_
    rw [f1]
    dsimp only
    rw [f3]
    simp only [Bool.false_eq_true, if_false, hnone]
    simp only [Array.empty_append]
    exact runs_pure _
  have r1 := r0 #[]
  simp only [kidGor, gor, stepG, gxFrame, unwind, callDeferred]
  rw [r1]
  simp [GStep.after, seen, goexitEntry]

theorem kid_of_body {P : Program} {B : Nat} {bo : Nat → Obj} {ch : Bool → Nat} {c : Nat} {Γf : List Ch} {vs : List Value} {kk : Nat} {f : FuncId} {fn : Func} {cd : Code} {caps : List Value} {Γ : List Ch} {nt : Nat} [HasBody P f] (hf : P.funcs[f]? = some fn) (hb : fn.body = some cd) (hn : fn.ntmps = nt)
    (h : Ex P (kidTgt P B bo ch c Γf vs kk) ⟨f, .deferred, none, []⟩ nt (envOf 0 caps) [.code cd] [gxFrame P []] Γ) (ha' : Nat.ble caps.length nt = true := by rfl) :
    ∀ hc, Star Γ hc → Kid P B bo ch c (finOf Γf) (.run ⟨vs, kk, kidGor P (.func f) caps, hc⟩) := fun hc s => by
  have ha : caps.length ≤ nt := Nat.le_of_ble_eq_true ha'
  refine kid_of_ev (Ev.silent ?_ (fun w => kid_enter w)) ⟨_, _, rfl⟩
  have e : Frame.enter P f ⟨caps⟩ .deferred = (Base.mk f .deferred none []).fr (caps.toArray ++ Array.replicate (fn.ntmps - caps.toArray.size) undef) [.code cd] := by
    simp [Frame.enter, Base.fr, hf, hb]
  rw [e]
  refine h _ hc ⟨by simp; omega, ?_⟩ s
  intro i v hv
  obtain ⟨_, h2⟩ := envOf_get _ _ _ _ hv
  have hl : i < caps.length := by
    rcases Nat.lt_or_ge i caps.length with hl | hl
    · exact hl
    · simp [List.getElem?_eq_none hl] at h2
  rw [Array.getElem?_append_left (by simpa using hl)]
  simpa using h2

end Go.Lx

namespace Go.Br
open Go Go.Lx Go.Proofs
open Go.Lx renaming rg_move → zA, rg_int → zB, rg_nilCheck → zC, rg_fieldAddr0 → zD, rg_fieldAddr → zE, rg_load → zF, rg_assign → zG, rg_loadAgg → zH, rg_extract → zI, rg_not → zJ, rg_pick → zK, rg_off → zL, rg_offU → zM, rg_store → zN, rg_storeAgg → zO, rg_convInt → zP, rg_done → zQ, ex_seq → zR, rg_start_s → zS, rg_start_d → zT, ex_cond_true → zU, ex_cond_false → zV, rg_alloc → zW, rg_boxAgg → zX, rg_build → zY, rg_lenSl → zZ, rg_lenMap → yA, ex_skip → yB, ex_block → yC, ex_inBlock → yD, ex_exit → yE, rg_caseG → yZ
set_option maxRecDepth 100000

/-- What the steps of a chain answer, where the other chain stands as o. -/
def rCodes (o : Cn) : Cn → List Stp → List Int
  | _, [] => []
  | s, x :: l => (step s x (knOf s o) o.heads.length).2.2 :: rCodes o (step s x (knOf s o) o.heads.length).1 l
def rEnd (o : Cn) : Cn → List Stp → Cn
  | s, [] => s
  | s, x :: l => rEnd o (step s x (knOf s o) o.heads.length).1 l
def zeros : List Int → Nat
  | [] => 0
  | a :: l => if a = 0 then zeros l + 1 else zeros l
abbrev eV (a : Int) : Value := .int .i64 a

theorem rCodes_len (o : Cn) : ∀ (l : List Stp) (s : Cn), (rCodes o s l).length = l.length
  | [], _ => rfl
  | x :: l, s => by simp [rCodes, rCodes_len o l]

theorem known_keeps {s : Cn} {nh : Nat} (h : s.known < nh) (x : Stp) (kn : Hd) : (step s x kn nh).1.known < nh := by
  obtain ⟨_, _, f3⟩ := step_frame s x kn nh
  rw [f3]
  split
  · split
    · exact h
    · omega
  · exact h

abbrev stL (x : Stp) : List Value := [.int .i64 x.kind, .int .u64 x.n, .int .u64 x.p.seq, .int .i64 x.p.frm, .int .i64 x.p.to, .int .i64 x.p.coin, .int .u64 x.p.amount, .int .u64 x.p.height, .int .u64 x.p.time]

/-- A list of steps that is only read. -/
def StepsAt (v : Value) (xs : List Stp) : LH → Prop := fun h => ∃ z : Option Addr × Nat, v = .slice z.1 xs.length z.2 ∧
  (xs = [] ∨ ∃ b off l T fz, z.1 = some ⟨b, off, none⟩ ∧ h b = some (false, .cells ⟨l⟩ T fz) ∧ ∀ (i : Nat) (x : Stp), xs[i]? = some x → SliceL l (off + i * 9) 9 (stL x))

theorem pers_stepsAt (v : Value) (xs : List Stp) : Pers (StepsAt v xs) := fun h ⟨z, e, k⟩ => ⟨z, e, k.imp id fun ⟨b, off, l, T, fz, e1, e2, e3⟩ => ⟨b, off, l, T, fz, e1, pers_pt (b := b) h e2, e3⟩⟩

structure SLay where
  b : Nat
  off : Nat
  l : List Value
  T : TypeId
  fz : Nat × Nat

theorem steps_open {a : Option Addr} {c : Nat} {xs : List Stp} {Γ : List Ch} {i : Nat} {x : Stp} (hi : xs[i]? = some x) : ∀ h, Star (.pr (StepsAt (.slice a xs.length c) xs) :: Γ) h → ∃ y : SLay, (a = some ⟨y.b, y.off, none⟩ ∧ ∀ (i : Nat) (x : Stp), xs[i]? = some x → SliceL y.l (y.off + i * 9) 9 (stL x)) ∧
    Star (.pt y.b false (.cells ⟨y.l⟩ y.T y.fz) :: Γ) h := fun h st => by
  obtain ⟨h1, h2, j, ⟨⟨a', c'⟩, e, k⟩, s2⟩ := st
  simp only [Value.slice.injEq, true_and] at e
  obtain ⟨rfl, rfl⟩ := e
  rcases k with rfl | ⟨b, off, l, T, fz, e1, e2, e3⟩
  · cases hi
  · exact ⟨⟨b, off, l, T, fz⟩, ⟨e1, e3⟩, h1, h2, j, e2, s2⟩

theorem steps_fold {c : Nat} {xs : List Stp} {Γ : List Ch} (y : SLay) (hy : ∀ (i : Nat) (x : Stp), xs[i]? = some x → SliceL y.l (y.off + i * 9) 9 (stL x)) :
    EntR (.pr (StepsAt (.slice (some ⟨y.b, y.off, none⟩) xs.length c) xs) :: Γ) (.pt y.b false (.cells ⟨y.l⟩ y.T y.fz) :: Γ) := .star fun h ⟨h1, h2, j, e, s2⟩ =>
  ⟨h1, h2, j, ⟨(some ⟨y.b, y.off, none⟩, c), rfl, .inr ⟨y.b, y.off, y.l, y.T, y.fz, rfl, e, hy⟩⟩, s2⟩

section
variable {B : Nat} {ch : Bool → Nat} {c0 c1 : Nat} {n0 : Int}

set_option maxHeartbeats 4000000 in
/-- The child of chain 0. -/
theorem kid0_ok (xs : List Stp) (s0 o : Cn) (ps : List Nat) (sx sn x3 x9 x8 hb : Nat) (hp : Bool) (ow : Value) (va : Option Addr) (vc : Nat) (N : Nat) (ok : Ok N s0) (oko : Ok N o) (hk : s0.known < o.heads.length) (hN : N + xs.length < 100000000) (hl : ps.length = o.heads.length) (hx : ∀ x ∈ xs, 0 ≤ x.n ∧ x.n < 18446744073709551616) :
    ∀ hc, Star (.pt sx true (.cells ⟨[.slice va xs.length vc]⟩ 75 (0, 0)) :: .pt sn true (.cells ⟨[.int .i64 0]⟩ 3 (0, 0)) :: .pt x3 false (.cells ⟨[ptrV B]⟩ 38 (0, 0)) :: .pt x9 false (.cells ⟨[.slice (some ⟨hb, 0, none⟩) o.heads.length o.heads.length, ow]⟩ 115 (0, 0)) :: .pt x8 false (.cells ⟨[.chan (some (ch false)), .chan (some (ch true))]⟩ 114 (0, 0)) ::
        .pr (StepsAt (.slice va xs.length vc) xs) :: .pr (ChainAt c0 s0 (knOf s0 o)) :: .pt hb hp (.cells ⟨ps.map ptrV⟩ 111 (0, 0)) :: .pr (HeadsAt ps o.heads) :: []) hc →
      Kid Try.prog B (brBo c0 c1 n0) ch (ch false) (finOf [.pr (ChainAt c0 (rEnd o s0 xs) (knOf (rEnd o s0 xs) o))]) (.run ⟨(rCodes o s0 xs).map eV, zeros (rCodes o s0 xs), kidGor Try.prog (.func 49) [ptrV sx, ptrV x3, ptrV sn, ptrV x9, ptrV x8], hc⟩) := by
  refine kid_of_body Try.func49 rfl Try.ntmps49 ?_
  repeat (first|refine zA rfl ?_|refine zF rfl ?_|refine zQ ?_|refine zR ?_|refine zS ?_|refine zZ rfl ?_|refine yC ?_)
  refine ex_loop ?_
  refine ex_indX (ι := List Stp × List Stp × Cn × Nat) (fun i => i.2.1.length)
    (fun i => kidB B c0 c1 n0 ch (ch false) [.pr (ChainAt c0 (rEnd o s0 xs) (knOf (rEnd o s0 xs) o))] ((rCodes o i.2.2.1 i.2.1).map eV) (zeros (rCodes o i.2.2.1 i.2.1)))
    (fun i => [(11, .int .i64 i.1.length), (10, .int .i64 xs.length), (9, .slice va xs.length vc), (0, ptrV sx), (1, ptrV x3), (2, ptrV sn), (3, ptrV x9), (4, ptrV x8)])
    (fun i => .pt sx true (.cells ⟨[.slice va xs.length vc]⟩ 75 (0, 0)) :: .pt sn true (.cells ⟨[.int .i64 0]⟩ 3 (0, 0)) :: .pt x3 false (.cells ⟨[ptrV B]⟩ 38 (0, 0)) :: .pt x9 false (.cells ⟨[.slice (some ⟨hb, 0, none⟩) o.heads.length o.heads.length, ow]⟩ 115 (0, 0)) :: .pt x8 false (.cells ⟨[.chan (some (ch false)), .chan (some (ch true))]⟩ 114 (0, 0)) ::
        .pr (StepsAt (.slice va xs.length vc) xs) :: .pr (ChainAt c0 i.2.2.1 (knOf i.2.2.1 o)) :: .pt hb hp (.cells ⟨ps.map ptrV⟩ 111 (0, 0)) :: .pr (HeadsAt ps o.heads) :: [])
    (fun i => xs = i.1 ++ i.2.1 ∧ rEnd o i.2.2.1 i.2.1 = rEnd o s0 xs ∧ Ok i.2.2.2 i.2.2.1 ∧ i.2.2.1.known < o.heads.length ∧ N ≤ i.2.2.2 ∧ i.2.2.2 + i.2.1.length < 100000000) ([], xs, s0, N) ⟨rfl, rfl, ok, hk, Nat.le_refl _, hN⟩ rfl ⟨rfl, rfl, rfl, rfl, rfl, rfl, rfl, rfl, trivial⟩ rfl ?_
  rintro ⟨pre, rest, s, M⟩ ⟨hpre, hend, ok', hk', hM1, hM2⟩ IH
  dsimp only at hpre hend ok' hk' hM1 hM2 IH ⊢
  repeat (first|refine zB rfl rfl rfl ?_|refine zQ ?_|refine zR ?_|refine zS ?_)
  cases rest with
  | nil =>
    have hlen : xs.length = pre.length := by rw [hpre]; simp
    refine ex_cond_split rfl (fun h1 => absurd (of_decide_eq_true h1) (by omega)) (fun h1 => ?_)
    repeat (first|refine zF rfl ?_|refine zS ?_|refine yE rfl ?_)
    refine rg_indexArr rfl rfl (by decide) ?_
    repeat refine zF rfl ?_
    refine Rg.ent (Ent.trans (Ent.drop (Ent.drop (Ent.drop (Ent.drop (Ent.drop (Ent.drop (Ent.refl _))))))) ent_one) ?_
    rw [← hend]
    exact rg_shClose (bb := false) Try.func49 rfl rfl rfl rfl rfl
  | cons x rest =>
    have hlen : xs.length = pre.length + (rest.length + 1) := by rw [hpre]; simp
    have hxi : xs[pre.length]? = some x := by rw [hpre]; simp
    have hxb := hx x (List.mem_of_getElem? hxi)
    rw [List.length_cons] at hM2
    obtain ⟨kk1, kk2⟩ := knOf_ok (oko.mono hM1) hk'
    have hhl := heads_len oko (by omega)
    (refine Ex.front 5 ?_)
    refine Ex.open_ (steps_open hxi) fun y hy => ?_
    obtain ⟨rfl, hy⟩ := hy
    haveI := hy _ _ hxi
    refine ex_cond_split rfl (fun h1 => ?_) (fun h1 => absurd (of_decide_eq_false h1) (by omega))
    repeat (first|refine zR ?_|refine zS ?_|refine yB ?_|refine yC ?_)
    refine rg_indexSl rfl rfl ⟨by omega, by omega⟩ ?_
    rw [Int.toNat_natCast]
    repeat (first|refine zC rfl ?_|refine zD rfl ?_|refine zF rfl ?_|refine zH rfl ?_|refine zO rfl rfl ?_|refine zQ ?_|refine zR ?_|refine zT (by decide+kernel) (by decide+kernel) ?_|refine zW fun bl=>?_)
    refine rg_indexArr rfl rfl (by decide) ?_
    refine rg_shLoad (v := ptrV c0) rfl (by decide) (fun m => ⟨_, _, _, rfl, rfl⟩) ?_
    repeat (first|refine zF rfl ?_|refine zH rfl ?_)
    refine rg_indexArr rfl rfl (by decide) ?_
    repeat refine zF rfl ?_
    (refine Rg.front 6 ?_; refine Rg.front 6 ?_; refine Rg.front 6 ?_; refine Rg.front 6 ?_; refine Rg.front 6 ?_; refine Rg.front 6 ?_; refine Rg.front 6 ?_; refine Rg.front 9 ?_; refine Rg.front 9 ?_; refine Rg.front 9 ?_)
    simp only [rCodes, zeros, List.map_cons]
    refine rg_callXY rfl (bdo_kid c0 hb hp s (knOf s o) x ps o.heads M _ ok' kk1 (by omega) hxb kk2 hl hhl) ?_
    rintro _ _ ⟨rfl, rfl⟩
    repeat (first|refine zA rfl ?_|refine zF rfl ?_|refine zG rfl ?_|refine zI rfl rfl ?_|refine zQ ?_|refine zS ?_)
    refine rg_indexArr rfl rfl (by decide) ?_
    repeat (first|refine zA rfl ?_|refine zF rfl ?_)
    refine rg_loudXY (φ := fun u Γ' => u = undef ∧ Γ' = _) (fun d' e => by cases e) trivial trivial (.inl rfl) (does_send rfl rfl) ?_
    rintro _ _ ⟨rfl, rfl⟩
    repeat (first|refine zA rfl ?_|refine zB rfl rfl rfl ?_|refine zQ ?_|refine zS ?_|refine yD ?_)
    rw [stepKn_eq oko hk' x hxb.1, show IntKind.wrap .i64 ((pre.length : Int) + 1) = (pre.length : Int) + 1 from wIn (by omega) (by omega)]
    (refine Ex.front 2 ?_; refine Ex.front 2 ?_; refine Ex.front 2 ?_; refine Ex.front 9 ?_; refine Ex.front 9 ?_; refine Ex.front 9 ?_; refine Ex.front 9 ?_; refine Ex.front 9 ?_; refine Ex.front 9 ?_; refine Ex.front 9 ?_)
    refine Ex.drop ?_
    refine Ex.ent (EntR.e (steps_fold (c := vc) y hy)) ?_
    (refine Ex.front 8 ?_; refine Ex.front 8 ?_; refine Ex.front 8 ?_; refine Ex.front 3 ?_; refine Ex.front 8 ?_; refine Ex.front 8 ?_; refine Ex.front 8 ?_; refine Ex.front 8 ?_; refine Ex.front 8 ?_)
    refine ex_inLoop ?_
    have IH' := IH (pre ++ [x], rest, (step s x (knOf s o) o.heads.length).1, M + 1) ⟨by rw [hpre]; simp, hend, step_keeps ok' (by omega) x hxb.1 _ _, known_keeps hk' x _, Nat.le_succ_of_le hM1, by show M + 1 + rest.length < _; omega⟩ (by simp)
    dsimp only at IH'
    rw [show ((pre ++ [x]).length : Int) = pre.length + 1 by simp] at IH'
    exact Ex.sup IH' ⟨rfl, rfl, rfl, rfl, rfl, rfl, rfl, rfl, trivial⟩

set_option maxHeartbeats 4000000 in
/-- The child of chain 1. -/
theorem kid1_ok (xs : List Stp) (s0 o : Cn) (ps : List Nat) (sx sn x3 x9 x8 hb : Nat) (hp : Bool) (ow : Value) (va : Option Addr) (vc : Nat) (N : Nat) (ok : Ok N s0) (oko : Ok N o) (hk : s0.known < o.heads.length) (hN : N + xs.length < 100000000) (hl : ps.length = o.heads.length) (hx : ∀ x ∈ xs, 0 ≤ x.n ∧ x.n < 18446744073709551616) :
    ∀ hc, Star (.pt sx true (.cells ⟨[.slice va xs.length vc]⟩ 75 (0, 0)) :: .pt sn true (.cells ⟨[.int .i64 1]⟩ 3 (0, 0)) :: .pt x3 false (.cells ⟨[ptrV B]⟩ 38 (0, 0)) :: .pt x9 false (.cells ⟨[ow, .slice (some ⟨hb, 0, none⟩) o.heads.length o.heads.length]⟩ 115 (0, 0)) :: .pt x8 false (.cells ⟨[.chan (some (ch false)), .chan (some (ch true))]⟩ 114 (0, 0)) ::
        .pr (StepsAt (.slice va xs.length vc) xs) :: .pr (ChainAt c1 s0 (knOf s0 o)) :: .pt hb hp (.cells ⟨ps.map ptrV⟩ 111 (0, 0)) :: .pr (HeadsAt ps o.heads) :: []) hc →
      Kid Try.prog B (brBo c0 c1 n0) ch (ch true) (finOf [.pr (ChainAt c1 (rEnd o s0 xs) (knOf (rEnd o s0 xs) o))]) (.run ⟨(rCodes o s0 xs).map eV, zeros (rCodes o s0 xs), kidGor Try.prog (.func 49) [ptrV sx, ptrV x3, ptrV sn, ptrV x9, ptrV x8], hc⟩) := by
  refine kid_of_body Try.func49 rfl Try.ntmps49 ?_
  repeat (first|refine zA rfl ?_|refine zF rfl ?_|refine zQ ?_|refine zR ?_|refine zS ?_|refine zZ rfl ?_|refine yC ?_)
  refine ex_loop ?_
  refine ex_indX (ι := List Stp × List Stp × Cn × Nat) (fun i => i.2.1.length)
    (fun i => kidB B c0 c1 n0 ch (ch true) [.pr (ChainAt c1 (rEnd o s0 xs) (knOf (rEnd o s0 xs) o))] ((rCodes o i.2.2.1 i.2.1).map eV) (zeros (rCodes o i.2.2.1 i.2.1)))
    (fun i => [(11, .int .i64 i.1.length), (10, .int .i64 xs.length), (9, .slice va xs.length vc), (0, ptrV sx), (1, ptrV x3), (2, ptrV sn), (3, ptrV x9), (4, ptrV x8)])
    (fun i => .pt sx true (.cells ⟨[.slice va xs.length vc]⟩ 75 (0, 0)) :: .pt sn true (.cells ⟨[.int .i64 1]⟩ 3 (0, 0)) :: .pt x3 false (.cells ⟨[ptrV B]⟩ 38 (0, 0)) :: .pt x9 false (.cells ⟨[ow, .slice (some ⟨hb, 0, none⟩) o.heads.length o.heads.length]⟩ 115 (0, 0)) :: .pt x8 false (.cells ⟨[.chan (some (ch false)), .chan (some (ch true))]⟩ 114 (0, 0)) ::
        .pr (StepsAt (.slice va xs.length vc) xs) :: .pr (ChainAt c1 i.2.2.1 (knOf i.2.2.1 o)) :: .pt hb hp (.cells ⟨ps.map ptrV⟩ 111 (0, 0)) :: .pr (HeadsAt ps o.heads) :: [])
    (fun i => xs = i.1 ++ i.2.1 ∧ rEnd o i.2.2.1 i.2.1 = rEnd o s0 xs ∧ Ok i.2.2.2 i.2.2.1 ∧ i.2.2.1.known < o.heads.length ∧ N ≤ i.2.2.2 ∧ i.2.2.2 + i.2.1.length < 100000000) ([], xs, s0, N) ⟨rfl, rfl, ok, hk, Nat.le_refl _, hN⟩ rfl ⟨rfl, rfl, rfl, rfl, rfl, rfl, rfl, rfl, trivial⟩ rfl ?_
  rintro ⟨pre, rest, s, M⟩ ⟨hpre, hend, ok', hk', hM1, hM2⟩ IH
  dsimp only at hpre hend ok' hk' hM1 hM2 IH ⊢
  repeat (first|refine zB rfl rfl rfl ?_|refine zQ ?_|refine zR ?_|refine zS ?_)
  cases rest with
  | nil =>
    have hlen : xs.length = pre.length := by rw [hpre]; simp
    refine ex_cond_split rfl (fun h1 => absurd (of_decide_eq_true h1) (by omega)) (fun h1 => ?_)
    repeat (first|refine zF rfl ?_|refine zS ?_|refine yE rfl ?_)
    refine rg_indexArr rfl rfl (by decide) ?_
    repeat refine zF rfl ?_
    refine Rg.ent (Ent.trans (Ent.drop (Ent.drop (Ent.drop (Ent.drop (Ent.drop (Ent.drop (Ent.refl _))))))) ent_one) ?_
    rw [← hend]
    exact rg_shClose (bb := true) Try.func49 rfl rfl rfl rfl rfl
  | cons x rest =>
    have hlen : xs.length = pre.length + (rest.length + 1) := by rw [hpre]; simp
    have hxi : xs[pre.length]? = some x := by rw [hpre]; simp
    have hxb := hx x (List.mem_of_getElem? hxi)
    rw [List.length_cons] at hM2
    obtain ⟨kk1, kk2⟩ := knOf_ok (oko.mono hM1) hk'
    have hhl := heads_len oko (by omega)
    (refine Ex.front 5 ?_)
    refine Ex.open_ (steps_open hxi) fun y hy => ?_
    obtain ⟨rfl, hy⟩ := hy
    haveI := hy _ _ hxi
    refine ex_cond_split rfl (fun h1 => ?_) (fun h1 => absurd (of_decide_eq_false h1) (by omega))
    repeat (first|refine zR ?_|refine zS ?_|refine yB ?_|refine yC ?_)
    refine rg_indexSl rfl rfl ⟨by omega, by omega⟩ ?_
    rw [Int.toNat_natCast]
    repeat (first|refine zC rfl ?_|refine zD rfl ?_|refine zF rfl ?_|refine zH rfl ?_|refine zO rfl rfl ?_|refine zQ ?_|refine zR ?_|refine zT (by decide+kernel) (by decide+kernel) ?_|refine zW fun bl=>?_)
    refine rg_indexArr rfl rfl (by decide) ?_
    refine rg_shLoad (v := ptrV c1) rfl (by decide) (fun m => ⟨_, _, _, rfl, rfl⟩) ?_
    repeat (first|refine zF rfl ?_|refine zH rfl ?_)
    refine rg_indexArr rfl rfl (by decide) ?_
    repeat refine zF rfl ?_
    (refine Rg.front 6 ?_; refine Rg.front 6 ?_; refine Rg.front 6 ?_; refine Rg.front 6 ?_; refine Rg.front 6 ?_; refine Rg.front 6 ?_; refine Rg.front 6 ?_; refine Rg.front 9 ?_; refine Rg.front 9 ?_; refine Rg.front 9 ?_)
    simp only [rCodes, zeros, List.map_cons]
    refine rg_callXY rfl (bdo_kid c1 hb hp s (knOf s o) x ps o.heads M _ ok' kk1 (by omega) hxb kk2 hl hhl) ?_
    rintro _ _ ⟨rfl, rfl⟩
    repeat (first|refine zA rfl ?_|refine zF rfl ?_|refine zG rfl ?_|refine zI rfl rfl ?_|refine zQ ?_|refine zS ?_)
    refine rg_indexArr rfl rfl (by decide) ?_
    repeat (first|refine zA rfl ?_|refine zF rfl ?_)
    refine rg_loudXY (φ := fun u Γ' => u = undef ∧ Γ' = _) (fun d' e => by cases e) trivial trivial (.inl rfl) (does_send rfl rfl) ?_
    rintro _ _ ⟨rfl, rfl⟩
    repeat (first|refine zA rfl ?_|refine zB rfl rfl rfl ?_|refine zQ ?_|refine zS ?_|refine yD ?_)
    rw [stepKn_eq oko hk' x hxb.1, show IntKind.wrap .i64 ((pre.length : Int) + 1) = (pre.length : Int) + 1 from wIn (by omega) (by omega)]
    (refine Ex.front 2 ?_; refine Ex.front 2 ?_; refine Ex.front 2 ?_; refine Ex.front 9 ?_; refine Ex.front 9 ?_; refine Ex.front 9 ?_; refine Ex.front 9 ?_; refine Ex.front 9 ?_; refine Ex.front 9 ?_; refine Ex.front 9 ?_)
    refine Ex.drop ?_
    refine Ex.ent (EntR.e (steps_fold (c := vc) y hy)) ?_
    (refine Ex.front 8 ?_; refine Ex.front 8 ?_; refine Ex.front 8 ?_; refine Ex.front 3 ?_; refine Ex.front 8 ?_; refine Ex.front 8 ?_; refine Ex.front 8 ?_; refine Ex.front 8 ?_; refine Ex.front 8 ?_)
    refine ex_inLoop ?_
    have IH' := IH (pre ++ [x], rest, (step s x (knOf s o) o.heads.length).1, M + 1) ⟨by rw [hpre]; simp, hend, step_keeps ok' (by omega) x hxb.1 _ _, known_keeps hk' x _, Nat.le_succ_of_le hM1, by show M + 1 + rest.length < _; omega⟩ (by simp)
    dsimp only at IH'
    rw [show ((pre ++ [x]).length : Int) = pre.length + 1 by simp] at IH'
    exact Ex.sup IH' ⟨rfl, rfl, rfl, rfl, rfl, rfl, rfl, rfl, trivial⟩
end
end Go.Br

namespace Go.Lx
open Go Go.Conc

def sdOf (d0 d1 : Sd) : Bool → Sd := fun b => if b then d1 else d0
theorem sdOf0 (d0 d1 d : Sd) : (fun b' => if b' = false then d else sdOf d0 d1 b') = sdOf d d1 := by funext b; cases b <;> rfl
theorem sdOf1 (d0 d1 d : Sd) : (fun b' => if b' = true then d else sdOf d0 d1 b') = sdOf d0 d := by funext b; cases b <;> rfl

/-- There or not. -/
def opt (g : Bool) (A : LH → Prop) : LH → Prop := fun h => g = true → A h
theorem ent_optI {A : LH → Prop} {Γ : List Ch} : Ent (.pr A :: Γ) (.pr (opt true A) :: Γ) := .star fun _ ⟨h1, h2, j, a, s⟩ => ⟨h1, h2, j, fun _ => a, s⟩
theorem ent_optE {A : LH → Prop} {Γ : List Ch} : Ent (.pr (opt true A) :: Γ) (.pr A :: Γ) := .star fun _ ⟨h1, h2, j, a, s⟩ => ⟨h1, h2, j, a rfl, s⟩
theorem ent_opt0 {A : LH → Prop} {Γ : List Ch} : Ent Γ (.pr (opt false A) :: Γ) := .star fun h s => ⟨fun _ => none, h, fun _ => .inl ⟨rfl, rfl⟩, (fun e => by cases e), s⟩

theorem star_kept {c1 c2 : Ch} {Δ : List Ch} {R hc : LH} (a : Star Δ R) (s : Star [c1, c2, .pr (fun h => h = R)] hc) : Star (c1 :: c2 :: Δ) hc := by
  refine Star.tail (fun _ => Star.tail fun h s => ?_) s
  have : Star (.pr (Star Δ) :: []) h := by
    obtain ⟨h1, h2, j, e, s2⟩ := s
    have e : h1 = R := e
    subst e
    exact ⟨h1, h2, j, a, s2⟩
  have := Star.open_.1 this
  rwa [List.append_nil] at this

/-- Two lists of chunks, each as one. -/
theorem star_two {Δ0 Δ1 Γ : List Ch} {h : LH} (s : Star (Δ0 ++ (Δ1 ++ Γ)) h) : Star (.pr (Star Δ0) :: .pr (Star Δ1) :: Γ) h :=
  Star.tail (fun _ => Star.open_.2) (Star.open_.2 s)

section
variable (P : Program) (X : Tgt) (B : Nat) (bo : Nat → Obj) (ch : Bool → Nat) (z : Value) (Γf : Bool → List Ch)
/-- The starter's target, by its children's states. -/
abbrev mT (d0 d1 : Sd) (R : LH) : Tgt := mainTgt P B bo ch (fun _ => z) (fun b => finOf (Γf b)) (endK P X B bo) (sdOf d0 d1) R
end

section
variable {P : Program} {X : Tgt} {B : Nat} {bo : Nat → Obj} {ch : Bool → Nat} {z : Value} {Γf : Bool → List Ch}
variable {b : Base} {n : Nat} {E : Env} {k : List Item} {cs : List Frame} {Γ : List Ch}

theorem ex_companyT {v0 v1 : List Value} {k0 k1 : Nat} {A0 A1 : LH → Prop} {s0 r0 s1 r1 : Nat} {t0 t1 : Bool} (hX : Co P X)
    (e : ∀ R0 R1 R, A0 R0 → A1 R1 → Join R0 R1 R → Ex P (mT P X B bo ch z Γf (.off v0 k0) (.off v1 k1) R) b n E k cs Γ) :
    Ex P X b n E k cs (.pt B true (bo (k0 + k1)) :: .pt (ch false) true (.chan 0 #[] false s0 r0 t0) :: .pt (ch true) true (.chan 0 #[] false s1 r1 t1) :: .pr A0 :: .pr A1 :: Γ) := by
  refine ex_company (vs := fun b => if b then v1 else v0) (kk := fun b => if b then k1 else k0) (zz := fun _ => z) (Fin := fun b => finOf (Γf b)) hX fun R0 R1 R a0 a1 j => ?_
  have : (fun b => Sd.off ((fun b : Bool => if b then v1 else v0) b) ((fun b : Bool => if b then k1 else k0) b)) = sdOf (.off v0 k0) (.off v1 k1) := by funext b; cases b <;> rfl
  rw [this]
  exact e R0 R1 R a0 a1 j

theorem ex_leaveT (e : Ex P X b n E k cs (.pt B true (bo 0) :: Γ)) : Ex P (mT P X B bo ch z Γf .gone .gone (fun _ => none)) b n E k cs Γ :=
  ex_leave (fun b => by cases b <;> rfl) e

variable {dr : Bool} {ops : Array Oper} {lo : Nat} {ex : List Nat} {fl : Floats} {rem : List Oper}
variable {d : Nat} {T : TypeId} {pos : String} {af : Array Edge} {gd : Option (Nat × Bool)}

theorem does_go0 {v0 : List Value} {k0 : Nat} {d1 : Sd} {f : Operand} {fn : FuncId} {caps : List Value} {at' : Array TypeId} {dst : Option Tmp} {x1 x2 : Nat} {o1 o2 : Obj} {Rk R' R : LH}
    (hf : Env.val E f = some (.func (.func fn) #[] ⟨caps⟩)) (jR : Join Rk R' R)
    (kid : ∀ hc, Star [.pt x1 true o1, .pt x2 true o2, .pr (fun h => h = Rk)] hc → Kid P B bo ch (ch false) (finOf (Γf false)) (.run ⟨v0, k0, kidGor P (.func fn) caps, hc⟩)) :
    DoesXY P (mT P X B bo ch z Γf (.off v0 k0) d1 R) (mT P X B bo ch z Γf (.on v0) d1 R') ⟨dst, .go ⟨.value f, ⟨[]⟩, at'⟩, T, pos, af, gd⟩ E (.pt x1 true o1 :: .pt x2 true o2 :: Γ) (fun u Γ' => u = undef ∧ Γ' = Γ) := by
  have := does_go (P := P) (B := B) (bo := bo) (ch := ch) (zz := fun _ => z) (Fin := fun b => finOf (Γf b)) (K := endK P X B bo) (sd := sdOf (.off v0 k0) d1) (bb := false) (T := T) (pos := pos) (af := af) (gd := gd) (at' := at') (dst := dst) (Γ := Γ) (E := E) rfl (fun h => by cases h) hf jR kid
  rwa [sdOf0] at this

theorem does_go1 {v0 v1 : List Value} {k1 : Nat} {f : Operand} {fn : FuncId} {caps : List Value} {at' : Array TypeId} {dst : Option Tmp} {x1 x2 : Nat} {o1 o2 : Obj} {R : LH}
    (hf : Env.val E f = some (.func (.func fn) #[] ⟨caps⟩))
    (kid : ∀ hc, Star [.pt x1 true o1, .pt x2 true o2, .pr (fun h => h = R)] hc → Kid P B bo ch (ch true) (finOf (Γf true)) (.run ⟨v1, k1, kidGor P (.func fn) caps, hc⟩)) :
    DoesXY P (mT P X B bo ch z Γf (.on v0) (.off v1 k1) R) (mT P X B bo ch z Γf (.on v0) (.on v1) (fun _ => none)) ⟨dst, .go ⟨.value f, ⟨[]⟩, at'⟩, T, pos, af, gd⟩ E (.pt x1 true o1 :: .pt x2 true o2 :: Γ) (fun u Γ' => u = undef ∧ Γ' = Γ) := by
  have := does_go (P := P) (B := B) (bo := bo) (ch := ch) (zz := fun _ => z) (Fin := fun b => finOf (Γf b)) (K := endK P X B bo) (sd := sdOf (.on v0) (.off v1 k1)) (bb := true) (T := T) (pos := pos) (af := af) (gd := gd) (at' := at') (dst := dst) (Γ := Γ) (E := E) rfl (fun _ vs k h => by cases h) hf (join_empty R) kid
  rwa [sdOf1] at this

theorem DoesYs.mono {o : Oper} {φ φ' : Tgt → Value → List Ch → Prop} (h : DoesYs P X o E Γ φ) (m : ∀ Y v Γ', φ Y v Γ' → φ' Y v Γ') : DoesYs P X o E Γ φ' := fun b R ops i l k cs hh ho hw hρ st e =>
  h b R ops i l k cs hh ho hw hρ st fun Y v Γ' h' f s => e Y v Γ' h' (m Y v Γ' f) s

theorem does_sel' {d0 d1 : Sd} {x y : Operand} {t0 t1 : TypeId} {dst : Option Tmp} [z0 : ZeroOf P t0 z] [z1 : ZeroOf P t1 z] (lv0 : d0.live = true) (lv1 : d1.live = true) (hon : (∃ vs, d0 = .on vs) ∨ ∃ vs, d1 = .on vs)
    (hx : Env.val E x = some (.chan (d0.chan (ch false)))) (hy : Env.val E y = some (.chan (d1.chan (ch true)))) :
    DoesYs P (mT P X B bo ch z Γf d0 d1 (fun _ => none)) ⟨dst, .select #[⟨x, none, t0⟩, ⟨y, none, t1⟩] true, T, pos, af, gd⟩ E Γ
      (fun Y u Γ' => (∃ v vs, d0 = .on (v :: vs) ∧ Y = mT P X B bo ch z Γf (.on vs) d1 (fun _ => none) ∧ u = selVal 0 true v z ∧ Γ' = Γ) ∨ (d0 = .on [] ∧ Y = mT P X B bo ch z Γf .gone d1 (fun _ => none) ∧ u = selVal 0 false z z ∧ Γ' = Γf false ++ Γ) ∨
        (∃ v vs, d1 = .on (v :: vs) ∧ Y = mT P X B bo ch z Γf d0 (.on vs) (fun _ => none) ∧ u = selVal 1 true z v ∧ Γ' = Γ) ∨ (d1 = .on [] ∧ Y = mT P X B bo ch z Γf d0 .gone (fun _ => none) ∧ u = selVal 1 false z z ∧ Γ' = Γf true ++ Γ)) := by
  refine (does_sel (P := P) (B := B) (bo := bo) (ch := ch) (zz := fun _ => z) (Γf := Γf) (K := endK P X B bo) (sd := sdOf d0 d1) (x := x) (y := y) (t0 := t0) (t1 := t1) (fun b => by cases b; exact lv0; exact lv1) (by
    rcases hon with ⟨vs, h⟩ | ⟨vs, h⟩
    · exact ⟨false, vs, h⟩
    · exact ⟨true, vs, h⟩) hx hy).mono ?_
  rintro Y u Γ' (⟨b, v, vs, h1, h2, h3, h4⟩ | ⟨b, h1, h2, h3, h4⟩)
  · cases b
    · rw [sdOf0] at h2
      exact .inl ⟨v, vs, h1, h2, h3, h4⟩
    · rw [sdOf1] at h2
      exact .inr (.inr (.inl ⟨v, vs, h1, h2, h3, h4⟩))
  · cases b
    · rw [sdOf0] at h2
      exact .inr (.inl ⟨h1, h2, h3, h4⟩)
    · rw [sdOf1] at h2
      exact .inr (.inr (.inr ⟨h1, h2, h3, h4⟩))

theorem rg_indexArrN {t len el m : Nat} {x y : Operand} {bl off : Nat} {kk : IntKind} {i : Int} (o : Nat) [u : Under P t (.array len el)] [c : CellsOf P el m] (hx : Env.val E x = some (.pointer (some ⟨bl, off, none⟩))) (hy : Env.val E y = some (.int kk i))
    (hi : 0 ≤ i ∧ i < len) (ho : off + i.toNat * m = o) (e : Rg P X b n dr ops (lo + 1) ex fl ((d, .pointer (some ⟨bl, o, none⟩)) :: E) rem k cs Γ)
    (hdn : d < n := by decide) (hex : NotYet ex lo := trivial) (hg : GuardOK ops ⟨some d, .indexAddr t x y, T, pos, af, gd⟩ E := by first | exact trivial | exact ⟨_, rfl, rfl⟩) :
    Rg P X b n dr ops lo ex fl E (⟨some d, .indexAddr t x y, T, pos, af, gd⟩ :: rem) k cs Γ := by
  subst ho
  exact rg_indexArr hx hy hi e hdn hex hg

/-- A child's state by what it still sends; or it is gone. -/
def sdX (g : Bool) (r : List Value) : Sd := if g then .gone else .on r
theorem sdX_live (g : Bool) (r : List Value) : (sdX g r).live = true := by cases g <;> rfl
theorem sdX_some {g : Bool} {r : List Value} {c : Nat} (h : ((sdX g r).chan c).isSome = true) : ∃ vs, sdX g r = .on vs := by
  cases g
  · exact ⟨r, rfl⟩
  · cases h
theorem sdX_none {g : Bool} {r : List Value} {c : Nat} (h : ((sdX g r).chan c).isSome = false) : g = true := by
  cases g
  · cases h
  · rfl
theorem sdX_cons {α : Type} {f : α → Value} {g : Bool} {r : List α} {v : Value} {vs : List Value} (h : sdX g (r.map f) = .on (v :: vs)) : ∃ a r', g = false ∧ r = a :: r' ∧ v = f a ∧ vs = r'.map f := by
  cases g with
  | true => cases h
  | false =>
    cases r with
    | nil => cases h
    | cons a r' => cases h; exact ⟨a, r', rfl, rfl, rfl, rfl⟩
theorem sdX_nil {α : Type} {f : α → Value} {g : Bool} {r : List α} (h : sdX g (r.map f) = .on []) : g = false ∧ r = [] := by
  cases g with
  | true => cases h
  | false =>
    cases r with
    | nil => exact ⟨rfl, rfl⟩
    | cons a r' => cases h

/-- A channel against nil. -/
theorem rg_neqChan {t t' el : TypeId} {dir : ChanDir} {x y : Operand} {a : Option Nat} [uu : Under P t (.chan dir el)] (hx : Env.val E x = some (.chan a)) (hy : Env.val E y = some (.chan none))
    (e : Rg P X b n dr ops (lo + 1) ex fl ((d, .bool a.isSome) :: E) rem k cs Γ)
    (hdn : d < n := by decide) (hex : NotYet ex lo := trivial) (hg : GuardOK ops ⟨some d, .binOp .neq t x y t', T, pos, af, gd⟩ E := by first | exact trivial | exact ⟨_, rfl, rfl⟩) :
    Rg P X b n dr ops lo ex fl E (⟨some d, .binOp .neq t x y t', T, pos, af, gd⟩ :: rem) k cs Γ :=
  rg_pure rfl hdn hex rfl hg (fun _ ρ h hρ _ => by
    have h1 := hρ x (by simp [Op.operands]) _ hx
    have h2 := hρ y (by simp [Op.operands]) _ hy
    simp only [execOp, wpE_bind', h1, h2]
    refine wpE_eqGuard_chan ?_
    show wpE P (do pure (Value.bool (!(← Op.equalIn (9999 + 1) t (.chan a) (.chan none))))) _ h
    rw [wpE_bind', Op.equalIn, wpE_bind', wpE_underlying uu.eq]
    cases a <;> exact ⟨rfl, rfl⟩) e
end
end Go.Lx
