/-
  Lemmas towards the law, proved without conditions of their own: THE LAW: small, played, UpTo; THE LAW: small, UpTo; THE SCRIPT OF THE STATEMENTS: what the kit's reading of it says of the memory; THE LOGIC, FIFTEENTH PART: array literals; pointers and structs that differ. No condition; COMPANY, NINTH PART: an operation's step in whatever world, by what its program runs to; targets of a child; rules that turn the target. No condition; COMPANY, TENTH PART: a child's targets, and the rules for what it does with others: it reads the shared block, adds to it, sends, closes its channel. (Printed by tools/gen_cxa.py.) No condition.
-/
import Derived.Test.YtedaknlacigbhaaPk25
import Derived.Test.YtedaknlacigbhaaPk11
import Derived.Deep.Slices
import Derived.ChangeArms
import Derived.Test.YtedaknlacigbhaaPk07
import Derived.Test.YtedaknlacigbhaaPk15
import Derived.Conc.Events
namespace Go.Br
open Go Go.Lx Go.Proofs
open Go.Lx renaming rg_move → zA, rg_int → zB, rg_nilCheck → zC, rg_fieldAddr0 → zD, rg_fieldAddr → zE, rg_load → zF, rg_assign → zG, rg_loadAgg → zH, rg_extract → zI, rg_not → zJ, rg_pick → zK, rg_off → zL, rg_offU → zM, rg_store → zN, rg_storeAgg → zO, rg_convInt → zP, rg_done → zQ, ex_seq → zR, rg_start_s → zS, rg_start_d → zT, ex_cond_true → zU, ex_cond_false → zV, rg_alloc → zW, rg_boxAgg → zX, rg_build → zY, rg_lenSl → zZ, rg_lenMap → yA, ex_skip → yB, ex_block → yC, ex_inBlock → yD, ex_exit → yE, rg_caseG → yZ
set_option maxRecDepth 100000

set_option maxHeartbeats 4000000 in
theorem playedAll_ok (o : Opn) (k : Int) (Γ : List Ch) (hk : k = 0 ∨ k = 8) :
    CallsX Try.prog 37 #[opV o, .int .i64 k] Γ (fun v Δ => v = .bool true ∧ Ent Δ Γ) := by
  obtain ⟨kind, oa, oc, os, oL, oM, on', od⟩ := o
  dsimp only [opV, opC]
  refine calls_of_body (args := [.agg ⟨[.int .i64 kind, .int .i64 oa, .int .i64 oc, .int .i64 os.kind, .int .u64 os.n, .int .u64 os.p.seq, .int .i64 os.p.frm, .int .i64 os.p.to, .int .i64 os.p.coin, .int .u64 os.p.amount, .int .u64 os.p.height, .int .u64 os.p.time, oL, oM, .int .u64 on', .int .i64 od]⟩, .int .i64 k]) Try.func37 rfl Try.ntmps37 fun X cs ret => ?_
  rcases hk with rfl | rfl
  · repeat (first|refine zA rfl ?_|refine zB rfl rfl rfl ?_|refine zD rfl ?_|refine zE rfl ?_|refine zF rfl ?_|refine zG rfl ?_|refine zQ ?_|refine zR ?_|refine zS ?_|refine zV rfl ?_|refine zX rfl fun bl=>?_|refine yB ?_|refine yC ?_|refine yD ?_)
    exact ex_rete ret Try.func37 rfl (Ent.drop (Ent.refl _)) ⟨rfl, Ent.refl _⟩
  · repeat (first|refine zA rfl ?_|refine zB rfl rfl rfl ?_|refine zD rfl ?_|refine zE rfl ?_|refine zF rfl ?_|refine zG rfl ?_|refine zQ ?_|refine zR ?_|refine zS ?_|refine zV rfl ?_|refine zX rfl fun bl=>?_|refine yB ?_|refine yC ?_|refine yD ?_)
    exact ex_rete ret Try.func37 rfl (Ent.drop (Ent.refl _)) ⟨rfl, Ent.refl _⟩

end Go.Br

namespace Go.Br
open Go Go.Lx Go.Proofs
open Go.Lx renaming rg_move → zA, rg_int → zB, rg_nilCheck → zC, rg_fieldAddr0 → zD, rg_fieldAddr → zE, rg_load → zF, rg_assign → zG, rg_loadAgg → zH, rg_extract → zI, rg_not → zJ, rg_pick → zK, rg_off → zL, rg_offU → zM, rg_store → zN, rg_storeAgg → zO, rg_convInt → zP, rg_done → zQ, ex_seq → zR, rg_start_s → zS, rg_start_d → zT, ex_cond_true → zU, ex_cond_false → zV, rg_alloc → zW, rg_boxAgg → zX, rg_build → zY, rg_lenSl → zZ, rg_lenMap → yA, ex_skip → yB, ex_block → yC, ex_inBlock → yD, ex_exit → yE, rg_caseG → yZ
set_option maxRecDepth 100000

def lenV : Value → Nat
  | .slice _ n _ => n
  | _ => 0

def smallGo : List Opn → Nat → Bool
  | [], n => decide (n ≤ 65536)
  | o :: l, n => if 65536 < n + (lenV o.L + lenV o.M) then false else smallGo l (n + (lenV o.L + lenV o.M))

def opsN (ops : List Opn) : Nat := ops.foldr (fun o n => lenV o.L + lenV o.M + n) 0

theorem smallGo_true : ∀ (l : List Opn) (n : Nat), smallGo l n = true → n + opsN l ≤ 65536
  | [], n, h => by simpa [smallGo, opsN] using h
  | o :: l, n, h => by
    simp only [smallGo] at h
    split at h
    · cases h
    · have := smallGo_true l _ h
      simp only [opsN, List.foldr_cons] at this ⊢; omega

/-- A script in memory, to be read alone. -/
structure ScAt (l : List Value) (off : Nat) (ops : List Opn) : Prop where
  at_ : ∀ i (h : i < ops.length), SliceL l (off + i * 16) 16 (opC ops[i])
  L : ∀ o ∈ ops, ∃ a n c, o.L = .slice a n c ∧ n < 70368744177664
  M : ∀ o ∈ ops, ∃ a n c, o.M = .slice a n c ∧ n < 70368744177664
  ok : ∀ o ∈ ops, OpOk o

theorem small_ok (b off cap : Nat) (l : List Value) (T : TypeId) (fz : Nat × Nat) (ops : List Opn) (Γ : List Ch) (sc : ScAt l off ops) (hl : ops.length < 70368744177664) :
    CallsX Try.prog 20 #[.slice (some ⟨b, off, none⟩) ops.length cap] (.pt b false (.cells ⟨l⟩ T fz) :: Γ)
      (fun v Δ => v = .bool (smallGo ops ops.length) ∧ Ent Δ (.pt b false (.cells ⟨l⟩ T fz) :: Γ)) := by
  refine calls_of_body (args := [.slice (some ⟨b, off, none⟩) ops.length cap]) Try.func20 rfl Try.ntmps20 fun X cs ret => ?_
  repeat (first|refine zA rfl ?_|refine zG rfl ?_|refine zQ ?_|refine zR ?_|refine zS ?_|refine zZ rfl ?_|refine yC ?_)
  refine ex_loop ?_
  refine ex_ind (ι := Nat × Nat) (fun i => ops.length + 1 - i.1) (fun i => [(10, .int .i64 i.1), (9, .int .i64 ops.length), (8, .slice (some ⟨b, off, none⟩) ops.length cap), (3, .int .i64 i.2)]) (fun _ => .pt b false (.cells ⟨l⟩ T fz) :: Γ)
    (fun i => i.1 ≤ ops.length ∧ i.2 < 70368744177664 ∧ smallGo ops ops.length = smallGo (ops.drop i.1) i.2) (0, ops.length) ⟨Nat.zero_le _, hl, rfl⟩ ⟨rfl, rfl, rfl, rfl, trivial⟩ rfl (fun (i, acc) hi IH => ?_)
  obtain ⟨hi1, hi2, hi3⟩ := hi
  dsimp only at hi1 hi2 hi3 ⊢
  repeat (first|refine zB rfl rfl rfl ?_|refine zQ ?_|refine zR ?_|refine zS ?_)
  refine ex_cond_split rfl (fun h1 => ?_) (fun h1 => ?_)
  · have hlt : i < ops.length := by have := of_decide_eq_true h1; omega
    repeat (first|refine zR ?_|refine zS ?_|refine yB ?_|refine yC ?_)
    refine rg_indexSl rfl rfl ⟨by omega, by omega⟩ ?_
    rw [Int.toNat_natCast]
    haveI := sc.at_ i hlt
    rw [List.drop_eq_getElem_cons hlt] at hi3
    obtain ⟨a1, n1, c1, e1, b1⟩ := sc.L _ (List.getElem_mem hlt)
    obtain ⟨a2, n2, c2, e2, b2⟩ := sc.M _ (List.getElem_mem hlt)
    generalize ops[i] = o at *
    obtain ⟨kind, oa, oc, os, oL, oM, on', od⟩ := o
    dsimp only at e1 e2
    subst e1; subst e2
    replace hi3 : smallGo ops ops.length = if 65536 < acc + (n1 + n2) then false else smallGo (ops.drop (i + 1)) (acc + (n1 + n2)) := hi3
    refine rg_loadAgg rfl ?_
    repeat (first|refine zA rfl ?_|refine zB rfl rfl rfl ?_|refine zE rfl ?_|refine zF rfl ?_|refine zG rfl ?_|refine zO rfl rfl ?_|refine zQ ?_|refine zR ?_|refine zS ?_|refine zW fun bl=>?_|refine zZ rfl ?_)
    rw [rwrap (x := (n1 : Int) + n2) (by omega), rwrap (x := (acc : Int) + ((n1 : Int) + n2)) (by omega)]
    refine ex_cond_split rfl (fun h2 => ?_) (fun h2 => ?_)
    · have h2 := of_decide_eq_true h2
      rw [if_pos (by omega)] at hi3
      repeat (first|refine zG rfl ?_|refine zQ ?_|refine zR ?_|refine zS ?_)
      exact ex_rete ret Try.func20 rfl (Ent.drop (Ent.refl _)) ⟨by rw [hi3]; rfl, Ent.refl _⟩
    · have h2 := of_decide_eq_false h2
      rw [if_neg (by omega)] at hi3
      repeat (first|refine zA rfl ?_|refine zB rfl rfl rfl ?_|refine zQ ?_|refine zS ?_|refine yB ?_|refine yD ?_)
      refine ex_inLoop ?_
      rw [rwrap (x := (i : Int) + 1) (by omega)]
      refine Ex.drop ?_
      rw [show (acc : Int) + ((n1 : Int) + n2) = ((acc + (n1 + n2) : Nat) : Int) by omega]
      exact Ex.sup (IH (i + 1, acc + (n1 + n2)) ⟨hlt, by dsimp only; omega, hi3⟩ (by dsimp only; omega)) ⟨rfl, rfl, rfl, rfl, trivial⟩
  · have hge : i = ops.length := by have := of_decide_eq_false h1; omega
    subst hge
    rw [List.drop_length] at hi3
    repeat (first|refine zA rfl ?_|refine zB rfl rfl rfl ?_|refine zG rfl ?_|refine zQ ?_|refine zR ?_|refine zS ?_|refine yE rfl ?_)
    refine ex_rete ret Try.func20 rfl (Ent.refl _) ⟨?_, Ent.refl _⟩
    rw [hi3]
    simp only [packV, smallGo]
    congr 1
    rw [Bool.eq_iff_iff]; simp; omega

theorem smallNil_ok (a : Option Addr) (cap : Nat) (Γ : List Ch) : CallsX Try.prog 20 #[.slice a 0 cap] Γ (fun v Δ => v = .bool true ∧ Ent Δ Γ) := by
  refine calls_of_body (args := [.slice a 0 cap]) Try.func20 rfl Try.ntmps20 fun X cs ret => ?_
  repeat (first|refine zA rfl ?_|refine zG rfl ?_|refine zQ ?_|refine zR ?_|refine zS ?_|refine zZ rfl ?_|refine yC ?_)
  refine ex_loop ?_
  repeat (first|refine zA rfl ?_|refine zB rfl rfl rfl ?_|refine zG rfl ?_|refine zQ ?_|refine zR ?_|refine zS ?_|refine zV rfl ?_|refine yE rfl ?_)
  exact ex_rete ret Try.func20 rfl (Ent.refl _) ⟨rfl, Ent.refl _⟩

theorem wd_mono {w B B' : Nat} {Γ : List Ch} (h : B ≤ B') : Ent (.pr (WdAt w B) :: Γ) (.pr (WdAt w B') :: Γ) := Ent.head fun h' ⟨z, ok, st⟩ => ⟨h', .refl h', z, ok.mono h, st⟩

/-- The world at the beginning. -/
theorem wd_new {w : Nat} {Γ : List Ch} : Ent (.pt w true (.cells ⟨[.slice none 0 0, .slice none 0 0, .slice none 0 0, .bool false]⟩ 89 (0, 0)) :: Γ) (.pr (WdAt w 1) :: Γ) := by
  have e0 : ∀ Δ : List Ch, Ent Δ (.pr (Star []) :: Δ) := fun Δ => .star fun h st => ⟨fun _ => none, h, fun _ => .inl ⟨rfl, rfl⟩, trivial, st⟩
  refine Ent.trans (Ent.cons (Ent.trans (e0 Γ) (Ent.trans (e0 _) (Ent.trans (e0 _) (Ent.trans (ent_nil (el := 23) (m := 1)) (Ent.trans (ent_nil (el := 53) (m := 1)) (ent_nil (el := 124) (m := 2)))))))) ?_
  exact EntR.e (wd_fold ⟨[], [], [], .slice none 0 0, .slice none 0 0, .slice none 0 0⟩ ⟨by simp, by simp, by simp, by simp, by simp, by simp, by simp⟩)

theorem upToNil_ok (a : Option Addr) (cap : Nat) (k : Int) (Γ : List Ch) :
    CallsX Try.prog 21 #[.slice a 0 cap, .int .i64 k] Γ (fun v Δ => v = .int .i64 (-1) ∧ Ent Δ Γ) := by
  refine calls_of_body (args := [.slice a 0 cap, .int .i64 k]) Try.func21 rfl Try.ntmps21 fun X cs ret => ?_
  repeat (first|refine zA rfl ?_|refine zG rfl ?_|refine zQ ?_|refine zR ?_|refine zS ?_|refine zX rfl fun bl=>?_|refine zY rfl ?_|refine zZ rfl ?_|refine yC ?_)
  refine ex_loop ?_
  repeat (first|refine zB rfl rfl rfl ?_|refine zG rfl ?_|refine zQ ?_|refine zR ?_|refine zS ?_|refine zV rfl ?_|refine yE rfl ?_)
  exact ex_rete ret Try.func21 rfl (Ent.drop (Ent.refl _)) ⟨rfl, Ent.refl _⟩

end Go.Br

namespace Go.Br
open Go Go.Lx Go.Proofs Go.ChangeShapes Go.WideShapes Go.Deep
set_option maxRecDepth 100000

section
variable {H : Type} {enc : TypeId × Value → H} {W : World} {base : Nat} {sp : Nat → Bool} {held : Bool}

theorem c_int : Try.prog.cellsOf 3 = 1 := by kernel_rfl
theorem c_u64 : Try.prog.cellsOf 36 = 1 := by kernel_rfl
theorem c_kind : Try.prog.cellsOf 25 = 1 := by kernel_rfl
theorem c_pk : Try.prog.cellsOf 49 = 7 := by kernel_rfl
theorem c_step : Try.prog.cellsOf 51 = 9 := by kernel_rfl
theorem c_steps : Try.prog.cellsOf 75 = 1 := by kernel_rfl
theorem c_op : Try.prog.cellsOf 83 = 16 := by kernel_rfl
theorem b_op : Try.prog.bytesOf 83 = 160 := by kernel_rfl
theorem b_step : Try.prog.bytesOf 51 = 72 := by kernel_rfl

theorem wf_i64 {n : Int} (h : (Lit.int .i64 n).wf = true) : -9223372036854775808 ≤ n ∧ n < 9223372036854775808 := by
  simp [Lit.wf, IntKind.min, IntKind.max, IntKind.bits, IntKind.signed] at h
  omega
theorem wf_u64 {n : Int} (h : (Lit.int .u64 n).wf = true) : 0 ≤ n ∧ n < 18446744073709551616 := by
  simp [Lit.wf, IntKind.min, IntKind.max, IntKind.bits, IntKind.signed] at h
  omega

theorem get_lt {α : Type} {l : List α} {i : Nat} (h : i < l.length) : ∃ y, l[i]? = some y := ⟨_, List.getElem?_eq_getElem h⟩

theorem dec_int {n : Nat} {c : Value} {y : DataW H × List MemPlace} (h : DataW.trod enc Try.prog W base sp held n 3 [c] = some y) : ∃ k, c = .int .i64 k ∧ -9223372036854775808 ≤ k ∧ k < 9223372036854775808 := by
  obtain ⟨k, e, _, w⟩ := DataW.trod_int Try.underlying3 h
  cases e
  exact ⟨k, rfl, wf_i64 w⟩
theorem dec_kind {n : Nat} {c : Value} {y : DataW H × List MemPlace} (h : DataW.trod enc Try.prog W base sp held n 25 [c] = some y) : ∃ k, c = .int .i64 k := by
  obtain ⟨k, e, _, w⟩ := DataW.trod_int Try.underlying25 h
  cases e
  exact ⟨k, rfl⟩
theorem dec_u64 {n : Nat} {c : Value} {y : DataW H × List MemPlace} (h : DataW.trod enc Try.prog W base sp held n 36 [c] = some y) : ∃ k, c = .int .u64 k ∧ 0 ≤ k ∧ k < 18446744073709551616 := by
  obtain ⟨k, e, _, w⟩ := DataW.trod_int Try.underlying36 h
  cases e
  exact ⟨k, rfl, wf_u64 w⟩

theorem fld {fs : Array Field} {xs : List (DataW H × List MemPlace)} {cs : List Value} {m : Nat} (hg : ∀ (i : Nat) (f : Field), fs[i]? = some f → DataW.trod enc Try.prog W base sp held m f.type ((cs.drop f.offset).take (Try.prog.cellsOf f.type)) = xs[i]?) (hxl : xs.length = fs.size)
    (i : Nat) {t off k : Nat} (hf : ∃ f, fs[i]? = some f ∧ f.type = t ∧ f.offset = off) (hc : Try.prog.cellsOf t = k) : ∃ y, xs[i]? = some y ∧ DataW.trod enc Try.prog W base sp held m t ((cs.drop off).take k) = some y := by
  obtain ⟨f, h1, rfl, rfl⟩ := hf
  subst hc
  have hl : i < fs.size := (Array.getElem?_eq_some_iff.1 h1).1
  obtain ⟨y, hy⟩ := get_lt (l := xs) (i := i) (by omega)
  exact ⟨y, hy, (hg i f h1).trans hy⟩

theorem dec_pk {n : Nat} {cs : List Value} {y : DataW H × List MemPlace} (h : DataW.trod enc Try.prog W base sp held n 49 cs = some y) : ∃ p : Pk, cs = pkC p := by
  obtain ⟨xs, m, _, _, hlen, hxl, hg⟩ := DataW.trod_struct Try.underlying49 h
  rw [c_pk] at hlen
  match cs, hlen with
  | [c0, c1, c2, c3, c4, c5, c6], _ =>
    obtain ⟨y0, _, h0⟩ := fld hg hxl 0 ⟨_, rfl, rfl, rfl⟩ c_u64
    obtain ⟨y1, _, h1⟩ := fld hg hxl 1 ⟨_, rfl, rfl, rfl⟩ c_int
    obtain ⟨y2, _, h2⟩ := fld hg hxl 2 ⟨_, rfl, rfl, rfl⟩ c_int
    obtain ⟨y3, _, h3⟩ := fld hg hxl 3 ⟨_, rfl, rfl, rfl⟩ c_int
    obtain ⟨y4, _, h4⟩ := fld hg hxl 4 ⟨_, rfl, rfl, rfl⟩ c_u64
    obtain ⟨y5, _, h5⟩ := fld hg hxl 5 ⟨_, rfl, rfl, rfl⟩ c_u64
    obtain ⟨y6, _, h6⟩ := fld hg hxl 6 ⟨_, rfl, rfl, rfl⟩ c_u64
    obtain ⟨k0, rfl, _⟩ := dec_u64 (c := c0) h0
    obtain ⟨k1, rfl, _⟩ := dec_int (c := c1) h1
    obtain ⟨k2, rfl, _⟩ := dec_int (c := c2) h2
    obtain ⟨k3, rfl, _⟩ := dec_int (c := c3) h3
    obtain ⟨k4, rfl, _⟩ := dec_u64 (c := c4) h4
    obtain ⟨k5, rfl, _⟩ := dec_u64 (c := c5) h5
    obtain ⟨k6, rfl, _⟩ := dec_u64 (c := c6) h6
    exact ⟨⟨k0, k1, k2, k3, k4, k5, k6⟩, rfl⟩

theorem dec_step {n : Nat} {cs : List Value} {y : DataW H × List MemPlace} (h : DataW.trod enc Try.prog W base sp held n 51 cs = some y) : ∃ x : Stp, cs = stC x ∧ 0 ≤ x.n ∧ x.n < 18446744073709551616 := by
  obtain ⟨xs, m, _, _, hlen, hxl, hg⟩ := DataW.trod_struct Try.underlying51 h
  rw [c_step] at hlen
  match cs, hlen with
  | [c0, c1, c2, c3, c4, c5, c6, c7, c8], _ =>
    obtain ⟨y0, _, h0⟩ := fld hg hxl 0 ⟨_, rfl, rfl, rfl⟩ c_kind
    obtain ⟨y1, _, h1⟩ := fld hg hxl 1 ⟨_, rfl, rfl, rfl⟩ c_u64
    obtain ⟨y2, _, h2⟩ := fld hg hxl 2 ⟨_, rfl, rfl, rfl⟩ c_pk
    obtain ⟨k0, rfl⟩ := dec_kind (c := c0) h0
    obtain ⟨k1, rfl, hr⟩ := dec_u64 (c := c1) h1
    obtain ⟨p, hp⟩ := dec_pk h2
    refine ⟨⟨k0, k1, p⟩, ?_, hr⟩
    have hp' : [c2, c3, c4, c5, c6, c7, c8] = pkC p := hp
    rw [show [Value.int .i64 k0, .int .u64 k1, c2, c3, c4, c5, c6, c7, c8] = [Value.int .i64 k0, .int .u64 k1] ++ [c2, c3, c4, c5, c6, c7, c8] from rfl, hp']
    rfl

/-- A step of a script; the readings of its lists. -/
theorem dec_op {n : Nat} {cs : List Value} {y : DataW H × List MemPlace} (h : DataW.trod enc Try.prog W base sp held n 83 cs = some y) :
    ∃ (o : Opn) (m : Nat) (yL yM : DataW H × List MemPlace) (ds : List (DataW H)), cs = opC o ∧ OpOk o ∧ y.1 = .agg ds ∧ ds[4]? = some yL.1 ∧ ds[5]? = some yM.1 ∧
      DataW.trod enc Try.prog W base sp held m 75 [o.L] = some yL ∧ DataW.trod enc Try.prog W base sp held m 75 [o.M] = some yM := by
  obtain ⟨xs, m, _, e, hlen, hxl, hg⟩ := DataW.trod_struct Try.underlying83 h
  rw [c_op] at hlen
  match cs, hlen with
  | [c0, c1, c2, c3, c4, c5, c6, c7, c8, c9, c10, c11, c12, c13, c14, c15], _ =>
    obtain ⟨y0, _, h0⟩ := fld hg hxl 0 ⟨_, rfl, rfl, rfl⟩ c_int
    obtain ⟨y1, _, h1⟩ := fld hg hxl 1 ⟨_, rfl, rfl, rfl⟩ c_int
    obtain ⟨y2, _, h2⟩ := fld hg hxl 2 ⟨_, rfl, rfl, rfl⟩ c_int
    obtain ⟨y3, _, h3⟩ := fld hg hxl 3 ⟨_, rfl, rfl, rfl⟩ c_step
    obtain ⟨y4, e4, h4⟩ := fld hg hxl 4 ⟨_, rfl, rfl, rfl⟩ c_steps
    obtain ⟨y5, e5, h5⟩ := fld hg hxl 5 ⟨_, rfl, rfl, rfl⟩ c_steps
    obtain ⟨y6, _, h6⟩ := fld hg hxl 6 ⟨_, rfl, rfl, rfl⟩ c_u64
    obtain ⟨y7, _, h7⟩ := fld hg hxl 7 ⟨_, rfl, rfl, rfl⟩ c_int
    obtain ⟨k0, rfl, _⟩ := dec_int (c := c0) h0
    obtain ⟨k1, rfl, r1⟩ := dec_int (c := c1) h1
    obtain ⟨k2, rfl, _⟩ := dec_int (c := c2) h2
    obtain ⟨x, hx, rx⟩ := dec_step h3
    obtain ⟨k6, rfl, r6⟩ := dec_u64 (c := c14) h6
    obtain ⟨k7, rfl, _⟩ := dec_int (c := c15) h7
    have hx' : [c3, c4, c5, c6, c7, c8, c9, c10, c11] = stC x := hx
    refine ⟨⟨k0, k1, k2, x, c12, c13, k6, k7⟩, m, y4, y5, xs.map (·.1), ?_, ⟨r1, rx, r6⟩, by rw [e], by rw [List.getElem?_map, e4]; rfl, by rw [List.getElem?_map, e5]; rfl, h4, h5⟩
    rw [show [Value.int .i64 k0, .int .i64 k1, .int .i64 k2, c3, c4, c5, c6, c7, c8, c9, c10, c11, c12, c13, .int .u64 k6, .int .i64 k7] = [Value.int .i64 k0, .int .i64 k1, .int .i64 k2] ++ [c3, c4, c5, c6, c7, c8, c9, c10, c11] ++ [c12, c13, .int .u64 k6, .int .i64 k7] from rfl, hx']
    rfl

theorem sliceL_of {l ul : List Value} {p m : Nat} (hm : ul.length = m) (h : ∀ j, j < m → l[p + j]? = ul[j]?) (hpos : 0 < m) : SliceL l p m ul := by
  have hl : p + m ≤ l.length := by
    have h1 := h (m - 1) (by omega)
    rw [List.getElem?_eq_getElem (l := ul) (by omega)] at h1
    have := (List.getElem?_eq_some_iff.1 h1).1
    omega
  refine ⟨l.take p, l.drop (p + m), ?_, by rw [List.length_take]; omega, hm⟩
  have e : (l.drop p).take m = ul := by
    apply List.ext_getElem?
    intro j
    rw [List.getElem?_take, List.getElem?_drop]
    split
    · exact h j (by assumption)
    · rw [List.getElem?_eq_none (by omega)]
  rw [← e, ← List.drop_drop, List.append_assoc, List.take_append_drop, List.take_append_drop]

theorem list_of {α : Type} {Q : Nat → α → Prop} : ∀ n, (∀ i, i < n → ∃ a, Q i a) → ∃ l : List α, l.length = n ∧ ∀ i (h : i < l.length), Q i l[i]
  | 0, _ => ⟨[], rfl, fun i h => by cases h⟩
  | n + 1, h => by
    obtain ⟨l, h1, h2⟩ := list_of n fun i hi => h i (by omega)
    obtain ⟨a, ha⟩ := h n (by omega)
    refine ⟨l ++ [a], by simp [h1], fun i hi => ?_⟩
    rcases Nat.lt_or_ge i l.length with hl | hl
    · rw [List.getElem_append_left hl]; exact h2 i hl
    · have : i = l.length := by rw [List.length_append] at hi; simp at hi; omega
      subst this
      rw [List.getElem_append_right (Nat.le_refl _)]
      simp only [Nat.sub_self, List.getElem_cons_zero]
      rw [h1]; exact ha

theorem cell_heap {a : Addr} {v : Value} (h : W.cell? a = some v) : ∃ l T fz, W.heap[a.block]? = some (.cells ⟨l⟩ T fz) ∧ a.spot = none ∧ l[a.off]? = some v := by
  unfold World.cell? at h
  split at h
  · rename_i c T fz hc
    split at h
    · cases h
    · rename_i hs
      refine ⟨c.toList, T, fz, hc, ?_, by simpa using h⟩
      cases ha : a.spot with
      | none => rfl
      | some x => rw [ha] at hs; simp at hs
  · cases h

/-- The cells of a row in memory, as slices of the block's list. -/
theorem row_cell {b off m i : Nat} {l : List Value} {T : TypeId} {fz : Nat × Nat} {cs : List Value} (hb : W.heap[b]? = some (.cells ⟨l⟩ T fz)) (hm : 0 < m) (h : W.cells? base ((⟨b, off, none⟩ : Addr).add (i * m)) m = some cs) : SliceL l (off + i * m) m cs := by
  obtain ⟨_, hl, hat⟩ := World.cells?_some h
  refine sliceL_of hl (fun j hj => ?_) hm
  have := hat j hj
  rw [← this]
  have e : ((⟨b, off, none⟩ : Addr).add (i * m)).add j = ⟨b, off + i * m + j, none⟩ := by
    rw [Go.Deep.add_add]
    unfold Addr.add
    split
    · rename_i h0; simp [show i * m = 0 by omega, show j = 0 by omega]
    · simp [Nat.add_assoc]
  rw [e]
  simp [World.cell?, hb]

theorem reach_eq : reachBytes = 140737488351232 := rfl

/-- A list of steps inside a script: its shape, and that it isn't beyond all bounds. -/
theorem dec_steps {n : Nat} {v : Value} {y : DataW H × List MemPlace} (h : DataW.trod enc Try.prog W base sp held n 75 [v] = some y) (hsz : ∀ k ∈ DataW.weights Try.prog 75 y.1, k ≤ reachBytes) : ∃ a n c, v = .slice a n c ∧ n < 70368744177664 := by
  rcases open_slice Try.underlying75 h with ⟨e, _⟩ | ⟨a, len, cap, m, k, D, Pl, e, _, _, _, _, hx, _⟩
  · cases e; exact ⟨none, 0, 0, rfl, by decide⟩
  · cases e
    refine ⟨some a, len, cap, rfl, ?_⟩
    have := hsz ((len + (m - len)) * Try.prog.bytesOf 51) (by rw [hx]; simp [DataW.weights, Try.underlying75])
    rw [b_step, reach_eq] at this
    omega

theorem weightsAll_mem {P : Program} {e : TypeId} : ∀ {l : List (DataW H)} {d : DataW H}, d ∈ l → ∀ n ∈ d.weights P e, n ∈ DataW.weightsAll P e l
  | d' :: r, d, hd, n, hn => by
    simp only [DataW.weightsAll, List.mem_append]
    rcases List.mem_cons.1 hd with rfl | h
    · exact Or.inl hn
    · exact Or.inr (weightsAll_mem h n hn)

end
end Go.Br

namespace Go.Lx
open Go

section
variable {P : Program} {X : Tgt} {b : Base} {n : Nat} {dr : Bool} {ops : Array Oper} {lo : Nat} {ex : List Nat} {fl : Floats} {E : Env} {rem : List Oper} {k : List Item} {cs : List Frame} {Γ : List Ch}
variable {d : Nat} {T : TypeId} {pos : String} {af : Array Edge} {gd : Option (Nat × Bool)}

theorem rg_buildArr {t el m sz : Nat} {z l : List Value} {parts : List (Nat × Operand)} {vs : List Value} [u : Under P t (.array m el)] [c : CellsOf P el sz] [zz : ZeroOf P t (.agg ⟨z⟩)] (hp : partsV E parts = some (enumV 0 vs)) (hz : z.length = vs.length * sz)
    (hc : vs.all (fun v => v.cells.size == sz) = true) (hl : flatC vs = l) (e : Rg P X b n dr ops (lo + 1) ex fl ((d, .agg ⟨l⟩) :: E) rem k cs Γ)
    (hdn : d < n := by decide) (hex : NotYet ex lo := trivial) (hg : GuardOK ops ⟨some d, .build t ⟨parts⟩, T, pos, af, gd⟩ E := by first | exact trivial | exact ⟨_, rfl, rfl⟩) :
    Rg P X b n dr ops lo ex fl E (⟨some d, .build t ⟨parts⟩, T, pos, af, gd⟩ :: rem) k cs Γ :=
  rg_pure rfl hdn hex rfl hg (fun _ ρ h hρ _ => by
    have hpm := partsV_map parts _ (fun x hx => hρ x (by simpa [Op.operands] using hx)) hp
    obtain ⟨i, i1, i2⟩ := zz.eq
    obtain ⟨ci, c1, c2⟩ := c.size
    simp only [execOp, wpE_bind', Instr.build, wpE_zeroValue i1 i2, wpE_underlying u.eq, wpE_sizeOf c1, c2]
    have hcs : ∀ v ∈ vs, v.cells.toList.length = sz := fun v hv => by have := List.all_eq_true.1 hc v hv; simpa using this
    have hfs := fill_seq (m := sz) vs 0 [] z (by simp) hz hcs
    have hparts : (Array.map (fun (x : Nat × Operand) => (x.1, ρ x.2)) ⟨parts⟩).toList = enumV 0 vs := by simpa using hpm
    have hzc : (Value.agg ⟨z⟩).cells = ⟨[] ++ z⟩ := rfl
    rw [hparts, hzc, hfs]
    simp only [wpE_pure, List.nil_append, hl, nxv, and_self]) e

/-- A struct against a struct. -/
theorem rg_neqAgg {t t' : TypeId} {x y : Operand} {us vs : List Value} {fs : List Field} {rs : List Bool} (hx : Env.val E x = some (.agg ⟨us⟩)) (hy : Env.val E y = some (.agg ⟨vs⟩)) (hu : P.underlying t = some (.struct ⟨fs⟩)) (hs : P.stoodInHeld t = false) (hge : P.eqGuardType P.depth t = false)
    (hf : EqFs P 9999 ⟨us⟩ ⟨vs⟩ fs rs) (e : Rg P X b n dr ops (lo + 1) ex fl ((d, .bool (!rs.all id)) :: E) rem k cs Γ)
    (hdn : d < n := by decide) (hex : NotYet ex lo := trivial) (hg : GuardOK ops ⟨some d, .binOp .neq t x y t', T, pos, af, gd⟩ E := by first | exact trivial | exact ⟨_, rfl, rfl⟩) :
    Rg P X b n dr ops lo ex fl E (⟨some d, .binOp .neq t x y t', T, pos, af, gd⟩ :: rem) k cs Γ :=
  rg_pure rfl hdn hex rfl hg (fun _ ρ h hρ _ => by
    have h1 := hρ x (by simp [Op.operands]) _ hx
    have h2 := hρ y (by simp [Op.operands]) _ hy
    simp only [execOp, wpE_bind', h1, h2]
    refine wpE_eqGuard_agg hge ?_
    show wpE P (do pure (Value.bool (!(← Op.equalIn (9999 + 1) t (.agg ⟨us⟩) (.agg ⟨vs⟩))))) _ h
    rw [wpE_bind']
    exact wpE_eqStruct hu hs hf ⟨rfl, rfl⟩) e
end
end Go.Lx

namespace Go.Lx
open Go Go.Conc

/-! ### what a piece of program runs to, with just what it lists -/

def RunsTo {α : Type} (P : Program) (e : Sem α) (w : World) (a : α) (w' : World) (ev : List Event) : Prop := ∀ es, e.runT P w es = (.ok a w', es ++ ev.toArray)

section
variable {P : Program} {α β : Type} {w w' w'' : World}

theorem runs_pure (a : α) : RunsTo P (pure a : Sem α) w a w [] := fun es => by
  show (Result.ok a w, es) = _
  simp
theorem runs_bind {e : Sem α} {f : α → Sem β} {a : α} {b : β} {l1 l2 : List Event} (h1 : RunsTo P e w a w' l1) (h2 : RunsTo P (f a) w' b w'' l2) : RunsTo P (e >>= f) w b w'' (l1 ++ l2) := fun es => by
  show (e.bind f).runT P w es = _
  rw [Sem.runT_bind', h1 es]
  simp only []
  rw [h2]
  simp
theorem runs_bind0 {e : Sem α} {f : α → Sem β} {a : α} {b : β} {l2 : List Event} (h1 : RunsTo P e w a w' []) (h2 : RunsTo P (f a) w' b w'' l2) : RunsTo P (e >>= f) w b w'' l2 := runs_bind h1 h2
theorem runs_program {f : Program → Sem β} {b : β} {l : List Event} (h : RunsTo P (f P) w b w' l) : RunsTo P (program >>= f) w b w' l := fun es => by
  show (Sem.bind program f).runT P w es = _
  exact h es
theorem runs_load {m : Mode} {a : Addr} {v : Value} (h : w.cell? a = some v) : RunsTo P (load a m) w v w [⟨.cell a, false, m == .atomic⟩] := fun es => by
  show (Sem.load m a _).runT P w es = _
  rw [Sem.runT, h]
  simp [Sem.runT]
theorem runs_mark {m : Mark} : RunsTo P (mark m) w () w [⟨.mark m, false, true⟩] := fun es => by
  show (Sem.mark m _).runT P w es = _
  rw [Sem.runT]
  simp [Sem.runT]
theorem runs_store {m : Mode} {a : Addr} {v v0 : Value} (h : w.cell? a = some v0) (ho : oneC v = true) (hf : w.frozen? a = false) : RunsTo P (store a v m) w () (w.setCell a v) [⟨.cell a, true, m == .atomic⟩] := fun es => by
  show (Sem.store m a v _).runT P w es = _
  cases v <;> first | (simp [oneC] at ho; done) | (simp [Sem.runT, h, hf])
theorem runs_getObj {r : Nat} {o : Obj} (h : w.heap[r]? = some o) (hc : isCells o = false) : RunsTo P (getObj r) w o w [⟨.obj r, false, o.isChan⟩] := fun es => by
  show (Sem.getObj r _).runT P w es = _
  rw [Sem.runT, h]
  cases o <;> first | (simp [isCells] at hc; done) | (simp [Sem.runT])
theorem runs_setObj {r : Nat} {o o0 : Obj} (h : w.heap[r]? = some o0) (hc : isCells o0 = false) : RunsTo P (setObj r o) w () { w with heap := w.heap.setIfInBounds r o } [⟨.obj r, true, o.isChan⟩] := fun es => by
  show (Sem.setObj r o _).runT P w es = _
  rw [Sem.runT, h]
  cases o0 <;> first | (simp [isCells] at hc; done) | (simp [Sem.runT])

theorem runs_underlying {t : TypeId} {d : TypeDesc} (e : P.underlying t = some d) : RunsTo P (underlying t) w d w [] := by
  unfold underlying
  refine runs_program ?_
  rw [e]
  exact runs_pure d
theorem runs_isAgg_false {t : TypeId} [s : Scalar P t] : RunsTo P (isAgg t) w false w [] := by
  obtain ⟨d, h1, h2⟩ := s.agg
  unfold isAgg
  refine runs_bind0 (runs_underlying h1) ?_
  cases d <;> first | exact runs_pure false | exact h2.elim
theorem runs_loadVar {t : TypeId} {a : Addr} {v : Value} [s : Scalar P t] (h : w.cell? a = some v) : RunsTo P (loadVar t a) w v w [⟨.cell a, false, false⟩] := by
  unfold loadVar
  exact runs_bind0 runs_isAgg_false (runs_load (m := .plain) h)
end

/-! ### the step -/

section
variable {P : Program} {m : Bool} {b : Base} {R : Array Value} {ops : Array Oper} {i : Nat} {l : List Nat} {k : List Item} {cs : List Frame} {o : Oper} {w w' : World}

theorem step_val {nx : Next} {v : Value} {ev : List Event} (ho : ops[i]? = some o) (hw : Region.wanted o (yielded ops R) = true) (hd : noDefer o.op = true) (r : RunsTo P (execOp (evT R) o) w nx w' ev) (hv : nxv nx = some v) :
    ∃ es, stepG P m (gor (b.fr R (.inRegion ops (i :: l) :: k)) cs) w = .go (gor (b.fr (putT R o.dst v) (.inRegion ops l :: k)) cs) w' es ∧ ∀ x ∈ es, x ∈ ev := by
  have r0 := r #[]
  have hf := finish_fr b R ops i l k v
  rw [ho] at hf
  simp only [Option.bind_some] at hf
  rw [stepG_oper ho hw hd]
  refine ⟨seen P b.fn (if b.kind == .early then #[] else (#[] ++ ev.toArray)), ?_, fun x hx => ?_⟩
  · cases nx with
    | value u =>
      cases hv
      simp only [stepG.apply, if_true, r0]
      rw [← hf]
      simp [GStep.after, Base.fr, gor]
    | skip =>
      cases hv
      simp only [stepG.apply, if_true, r0]
      rw [← hf]
      simp [GStep.after, Base.fr, gor]
    | _ => cases hv
  · have := mem_seen hx
    split at this
    · simp at this
    · simpa using this

theorem step_val_ex {nx : Next} {v : Value} {ev : List Event} (ho : ops[i]? = some o) (hw : Region.wanted o (yielded ops R) = true) (hd : noDefer o.op = true) (r : RunsTo P (execOp (evT R) o) w nx w' ev) (hv : nxv nx = some v) :
    stepG P m (gor (b.fr R (.inRegion ops (i :: l) :: k)) cs) w = .go (gor (b.fr (putT R o.dst v) (.inRegion ops l :: k)) cs) w' (seen P b.fn (if b.kind == .early then #[] else ev.toArray)) := by
  have r0 := r #[]
  have hf := finish_fr b R ops i l k v
  rw [ho] at hf
  simp only [Option.bind_some] at hf
  rw [stepG_oper ho hw hd]
  cases nx with
  | value u =>
    cases hv
    simp only [stepG.apply, if_true, r0]
    rw [← hf]
    simp [GStep.after, Base.fr, gor]
  | skip =>
    cases hv
    simp only [stepG.apply, if_true, r0]
    rw [← hf]
    simp [GStep.after, Base.fr, gor]
  | _ => cases hv

theorem step_com {cases : Array CommCase} {bl : Bool} {sh : CommShape} {ev : List Event} (ho : ops[i]? = some o) (hw : Region.wanted o (yielded ops R) = true) (hd : noDefer o.op = true) (r : RunsTo P (execOp (evT R) o) w (.comm cases bl sh) w' ev) :
    ∃ es, stepG P m (gor (b.fr R (.inRegion ops (i :: l) :: k)) cs) w = .comm (core (gor (b.fr R (.inRegion ops (i :: l) :: k)) cs)) cases bl sh w' es ∧ ∀ x ∈ es, x ∈ ev := by
  have r0 := r #[]
  rw [stepG_oper ho hw hd]
  refine ⟨seen P b.fn (if b.kind == .early then #[] else (#[] ++ ev.toArray)), ?_, fun x hx => ?_⟩
  · simp only [stepG.apply, if_true, r0]
    simp [GStep.after, Base.fr, gor, core]
  · have := mem_seen hx
    split at this
    · simp at this
    · simpa using this

/-- The frame that a go statement's goroutine begins with. -/
def gxFrame (P : Program) (ds : List Deferred) : Frame := { (default : Frame) with fn := P.funcs.size, defers := ds, mode := .panicking [goexitEntry] }

theorem step_spn {d : Deferred} {ev : List Event} (ho : ops[i]? = some o) (hw : Region.wanted o (yielded ops R) = true) (hd : noDefer o.op = true) (r : RunsTo P (execOp (evT R) o) w (.spawn d) w' ev) (hn : (d.target matches .nil) = false) :
    ∃ es, stepG P m (gor (b.fr R (.inRegion ops (i :: l) :: k)) cs) w = .spawn (gor (b.fr (putT R o.dst undef) (.inRegion ops l :: k)) cs) (gor (gxFrame P [d]) []) w' es ∧ ∀ x ∈ es, x ∈ ev := by
  have r0 := r #[]
  have hf := finish_fr b R ops i l k undef
  rw [ho] at hf
  simp only [Option.bind_some] at hf
  rw [stepG_oper ho hw hd]
  refine ⟨seen P b.fn (if b.kind == .early then #[] else (#[] ++ ev.toArray)), ?_, fun x hx => ?_⟩
  · simp only [stepG.apply, if_true, r0]
    rw [← hf]
    cases ht : d.target with
    | nil => rw [ht] at hn; cases hn
    | _ => simp [GStep.after, Base.fr, gor, gxFrame]
  · have := mem_seen hx
    split at this
    · simp at this
    · simpa using this
end

end Go.Lx

namespace Go.Lx
open Go Go.Conc

theorem EvOK.le {h h' : LH} {x : Event} (l : h.Le h') (k : EvOK h x) : EvOK h' x := by
  unfold EvOK at *
  split
  · rename_i a hl; rw [hl] at k; obtain ⟨p, o, h1, h2⟩ := k; obtain ⟨p', h3, h4⟩ := l _ _ _ h1; exact ⟨p', o, h3, fun e => h4 (h2 e)⟩
  · rename_i a hl; rw [hl] at k; obtain ⟨p, o, h1, h2⟩ := k; obtain ⟨p', h3, h4⟩ := l _ _ _ h1; exact ⟨p', o, h3, fun e => h4 (h2 e)⟩
  · rename_i m hl; rw [hl] at k; exact k
  · rename_i q h1 h2 h3; revert k; split
    · rename_i a hl; exact fun _ => absurd hl (h1 _)
    · rename_i a hl; exact fun _ => absurd hl (h2 _)
    · rename_i a hl; exact fun _ => absurd hl (h3 _)
    · exact id

theorem StepOK.mono {P : Program} {m : Bool} {g : Goroutine} {h0 h : LH} {K : Goroutine → LH → Prop} (hk : StepOK P m g h0 K) (le : h0.Le h) : StepOK P m g h (fun g' h' => ∃ h0', K g' h0' ∧ h0'.Le h') := by
    intro w hw
    obtain ⟨fr, cs, w', h0', es, e1, u, ev, k⟩ := hk w (le.sub hw)
    let h' : LH := fun b => match h0' b with
      | some (_, o') => some ((match h b with | some (p, _) => p | none => true), o')
      | none => h b
    have hle : h0'.Le h' := by
      intro b p o e
      refine ⟨(match h b with | some (p, _) => p | none => true), by simp only [h', e], fun hp => ?_⟩
      subst hp
      cases e0 : h0 b with
      | some po =>
        obtain ⟨p0, o0⟩ := po
        obtain ⟨o1, e4, _⟩ := u.perm _ _ _ e0
        rw [e] at e4; cases e4
        obtain ⟨p', e5, q5⟩ := le _ _ _ e0
        rw [e5]; exact q5 rfl
      | none =>
        cases e6 : h b with
        | none => rfl
        | some po =>
          obtain ⟨p1, o1⟩ := po
          have := lt_of_heap (hw _ _ _ e6)
          have := (u.new _ _ _ e0 e).1
          omega
    refine ⟨fr, cs, w', h', es, e1, ⟨?_, u.size, ?_, ?_, ?_, u.os, u.output, u.tape, u.drawn⟩, ?_, ⟨h0', k, hle⟩⟩
    · intro b p o e
      simp only [h'] at e
      cases e7 : h0' b with
      | some po => obtain ⟨p0, o0⟩ := po; rw [e7] at e; cases e; exact u.sub _ _ _ e7
      | none =>
        rw [e7] at e
        have e8 : h0 b = none := by
          cases e9 : h0 b with
          | none => rfl
          | some po => obtain ⟨p0, o0⟩ := po; obtain ⟨o1, e4, _⟩ := u.perm _ _ _ e9; rw [e7] at e4; cases e4
        rw [u.keep b (lt_of_heap (hw _ _ _ e)) e8]; exact hw _ _ _ e
    · intro b p o e
      cases e7 : h0' b with
      | none => exact ⟨o, by simp only [h', e7]; exact e, fun _ => rfl⟩
      | some po =>
        obtain ⟨p0, o0⟩ := po
        refine ⟨o0, by simp only [h', e7, e], fun hp => ?_⟩
        subst hp
        cases e9 : h0 b with
        | none => have := lt_of_heap (hw _ _ _ e); have := (u.new _ _ _ e9 e7).1; omega
        | some po =>
          obtain ⟨p2, o2⟩ := po
          obtain ⟨o1, e4, q4⟩ := u.perm _ _ _ e9
          rw [e7] at e4; cases e4
          obtain ⟨p', e5, q5⟩ := le _ _ _ e9
          rw [e] at e5; cases e5
          cases p0 with
          | true => cases q5 rfl
          | false => exact q4 rfl
    · intro b p o e e'
      have e8 : h0 b = none := by
        cases e9 : h0 b with
        | none => rfl
        | some po => obtain ⟨p0, o0⟩ := po; obtain ⟨p', e5, _⟩ := le _ _ _ e9; rw [e] at e5; cases e5
      simp only [h', e] at e'
      cases e7 : h0' b with
      | none => rw [e7] at e'; cases e'
      | some po => obtain ⟨p0, o0⟩ := po; rw [e7] at e'; cases e'; exact ⟨(u.new _ _ _ e8 e7).1, rfl⟩
    · intro b hb e
      refine u.keep b hb ?_
      cases e9 : h0 b with
      | none => rfl
      | some po => obtain ⟨p0, o0⟩ := po; obtain ⟨p', e5, _⟩ := le _ _ _ e9; rw [e] at e5; cases e5
    · intro x hx
      have := ev x hx
      unfold EvOK at *
      split
      · rename_i a hl; rw [hl] at this; obtain ⟨p, o, h1, h2⟩ := this; obtain ⟨p', h3, h4⟩ := hle _ _ _ h1; exact ⟨p', o, h3, fun e => h4 (h2 e)⟩
      · rename_i a hl; rw [hl] at this; obtain ⟨p, o, h1, h2⟩ := this; obtain ⟨p', h3, h4⟩ := hle _ _ _ h1; exact ⟨p', o, h3, fun e => h4 (h2 e)⟩
      · rename_i m hl; rw [hl] at this; exact this
      · rename_i l h1 h2 h3; revert this; split
        · rename_i a hl; exact fun _ => absurd hl (h1 _)
        · rename_i a hl; exact fun _ => absurd hl (h2 _)
        · rename_i a hl; exact fun _ => absurd hl (h3 _)
        · exact id

/-- A heap that holds Γ, and perhaps more. -/
def finOf (Γ : List Ch) : LH → Prop := fun h => ∃ h0, Star Γ h0 ∧ h0.Le h
theorem finOf.le {Γ : List Ch} {h h' : LH} (f : finOf Γ h) (l : h.Le h') : finOf Γ h' := let ⟨h0, s, l0⟩ := f; ⟨h0, s, l0.trans l⟩

def KX.le : KX → KX → Prop
  | .run s, .run s' => s.vs = s'.vs ∧ s.k = s'.k ∧ s.g = s'.g ∧ s.h.Le s'.h
  | .park s g v z, .park s' g' v' z' => s.vs = s'.vs ∧ s.k = s'.k ∧ s.g = s'.g ∧ s.h.Le s'.h ∧ g = g' ∧ v = v' ∧ z = z'
  | .shut h, .shut h' => h.Le h'
  | .gone, .gone => True
  | .off vs k, .off vs' k' => vs = vs' ∧ k = k'
  | _, _ => False

section
variable {P : Program} {B : Nat} {bo : Nat → Obj} {ch : Bool → Nat} {c : Nat}

theorem Kid.mono {Fin : LH → Prop} (hF : ∀ h h', Fin h → h.Le h' → Fin h') {x : KX} (k : Kid P B bo ch c Fin x) : ∀ y, x.le y → Kid P B bo ch c Fin y := by
  induction k with
  | @node x N hr st hN ih =>
    intro y hy
    let N' : KX → Prop := fun y' => ∃ x', N x' ∧ x'.le y'
    have run' : ∀ s, y = .run s → s.g.status = .running := fun s e => by
      subst e
      cases x with
      | run s0 => rw [← hy.2.2.1]; exact hr s0 rfl
      | _ => exact hy.elim
    refine .node N' run' ?_ (fun y' ⟨x', n, l⟩ => ih x' n y' l)
    cases st with
    | @own vs k g h st =>
      cases y with
      | run s' =>
        obtain ⟨vs', k', g', h'⟩ := s'
        obtain ⟨e1, e2, e3, l⟩ := hy
        dsimp only at e1 e2 e3 l
        subst e1 e2 e3
        exact .own ((st.mono l).imp fun g2 h2 ⟨h0', n, l'⟩ => ⟨_, n, rfl, rfl, rfl, l'⟩)
      | _ => exact hy.elim
    | @rd vs k g h st =>
      cases y with
      | run s' =>
        obtain ⟨vs', k', g', h'⟩ := s'
        obtain ⟨e1, e2, e3, l⟩ := hy
        dsimp only at e1 e2 e3 l
        subst e1 e2 e3
        exact .rd fun w m hw hb => let ⟨fr, cs, es, e, ev, n⟩ := st w m (l.sub hw) hb; ⟨fr, cs, es, e, ev, _, n, rfl, rfl, rfl, l⟩
      | _ => exact hy.elim
    | @add vs k g h st =>
      cases y with
      | run s' =>
        obtain ⟨vs', k', g', h'⟩ := s'
        obtain ⟨e1, e2, e3, l⟩ := hy
        dsimp only at e1 e2 e3 l
        subst e1 e2 e3
        exact .add fun w m hw hb => let ⟨fr, cs, es, e, ev, n⟩ := st w m (l.sub hw) hb; ⟨fr, cs, es, e, ev, _, n, rfl, rfl, rfl, l⟩
      | _ => exact hy.elim
    | @send v vs k g h z st n1 n2 =>
      cases y with
      | run s' =>
        obtain ⟨vs', k', g', h'⟩ := s'
        obtain ⟨e1, e2, e3, l⟩ := hy
        dsimp only at e1 e2 e3 l
        subst e1 e2 e3
        exact .send z (fun w hw => let ⟨es, e, ev⟩ := st w (l.sub hw); ⟨es, e, fun x hx => (ev x hx).le l⟩) ⟨_, n1, rfl, rfl, rfl, l⟩ ⟨_, n2, rfl, rfl, rfl, l, rfl, rfl, rfl⟩
      | _ => exact hy.elim
    | @shut g h hw st n =>
      cases y with
      | run s' =>
        obtain ⟨vs', k', g', h'⟩ := s'
        obtain ⟨e1, e2, e3, l⟩ := hy
        dsimp only at e1 e2 e3 l
        subst e1 e2 e3
        exact .shut hw (fun w a r tm hs hb => let ⟨g', es, n', e, ev, q⟩ := st w a r tm (l.sub hs) hb; ⟨g', es, n', e, fun x hx => (ev x hx).imp (·.le l) id, q⟩) ⟨_, n, l⟩
      | _ => exact hy.elim
    | @park s g v z e n =>
      cases y with
      | park s' g' v' z' =>
        obtain ⟨vs', k', g2, h'⟩ := s'
        obtain ⟨e1, e2, e3, l, e4, e5, e6⟩ := hy
        dsimp only at e1 e2 e3 l
        subst e1 e2 e3 e4 e5 e6
        exact .park e ⟨_, n, rfl, rfl, rfl, l⟩
      | _ => exact hy.elim
    | @gone h hf n =>
      cases y with
      | shut h' => exact .gone (hF _ _ hf hy) ⟨_, n, trivial⟩
      | _ => exact hy.elim
    | off =>
      cases y with
      | off => exact .off
      | _ => exact hy.elim
    | done =>
      cases y with
      | gone => exact .done
      | _ => exact hy.elim

variable (P B bo ch c) in
/-- A child's target: it goes on as a child that sends vs, and adds k times. -/
def kidTgt (Γf : List Ch) (vs : List Value) (k : Nat) : Tgt :=
  ⟨false, fun g h => (∃ fr cs, g = gor fr cs) ∧ Kid P B bo ch c (finOf Γf) (.run ⟨vs, k, g, h⟩), fun _ _ _ ⟨e, kd⟩ l => ⟨e, kd.mono (fun _ _ => finOf.le) _ ⟨rfl, rfl, rfl, l⟩⟩⟩

theorem kid_of_ev {Γf : List Ch} {vs : List Value} {k : Nat} {g : Goroutine} {h : LH} (e : Ev P (kidTgt P B bo ch c Γf vs k) g h) : (∃ fr cs, g = gor fr cs) → Kid P B bo ch c (finOf Γf) (.run ⟨vs, k, g, h⟩) := by
  induction e with
  | stop s => exact fun _ => s.2
  | @step g h K hk hn ih =>
    rintro ⟨fr, cs, rfl⟩
    refine .node (fun y => ∃ g' h', y = .run ⟨vs, k, g', h'⟩ ∧ K g' h' ∧ ∃ fr cs, g' = gor fr cs) (fun s e => by cases e; rfl) (.own fun w hw => ?_) (fun y ⟨g', h', e, kk, hg⟩ => by subst e; exact ih g' h' kk hg)
    obtain ⟨fr', cs', w', h', es, e1, u, ev, kk⟩ := hk w hw
    exact ⟨fr', cs', w', h', es, e1, u, ev, _, _, rfl, kk, _, _, rfl⟩
end

/-! ### rules that turn the target -/

def DoesXY (P : Program) (X Y : Tgt) (o : Oper) (E : Env) (Γ : List Ch) (φ : Value → List Ch → Prop) : Prop :=
  ∀ (b : Base) (R : Array Value) (ops : Array Oper) (i : Nat) (l : List Nat) (k : List Item) (cs : List Frame) (h : LH), ops[i]? = some o → Region.wanted o (yielded ops R) = true →
    (∀ x ∈ o.op.operands, ∀ u, Env.val E x = some u → evT R x = u) → Star Γ h →
    (∀ v Γ' h', φ v Γ' → Star Γ' h' → Ev P Y (gor (b.fr (putT R o.dst v) (.inRegion ops l :: k)) cs) h') →
    Ev P X (gor (b.fr R (.inRegion ops (i :: l) :: k)) cs) h

/-- All that has been taken comes ahead of operation lo. -/
def chkAnc (ops : Array Oper) (lo : Nat) (ex : List Nat) : Bool := (List.range lo).all fun j => isAnc ops (ix ex lo) (ix ex j)

section
variable {P : Program} {X : Tgt} {b : Base} {n : Nat} {dr : Bool} {ops : Array Oper} {lo : Nat} {ex : List Nat} {fl : Floats} {E : Env} {rem : List Oper} {k : List Item} {cs : List Frame} {Γ : List Ch}

theorem rg_loudXY {Y : Tgt} {o : Oper} {φ : Value → List Ch → Prop} (hdn : ∀ d, o.dst = some d → d < n) (hex : NotYet ex lo) (hg : GuardOK ops o E)
    (hc : dr = false ∨ (chkLast ops lo ex = true ∧ chkAnc ops lo ex = true)) (hdo : DoesXY P X Y o E Γ φ)
    (e : ∀ v Γ', φ v Γ' → Rg P Y b n dr ops (lo + 1) ex [] (match o.dst with | some d => (d, v) :: E | none => E) rem k cs Γ') :
    Rg P X b n dr ops lo ex fl E (o :: rem) k cs Γ := by
  intro hrem
  have hset : ∀ R v, Tms n E R → Tms n (match o.dst with | some d => (d, v) :: E | none => E) (putT R o.dst v) := by
    intro R v t
    unfold putT
    cases hd : o.dst with
    | none => exact t
    | some d => exact t.set (hdn d hd) v
  cases dr with
  | false =>
    intro hx0 R h t s
    subst hx0
    obtain ⟨ho, hrem'⟩ := remOf_static hrem
    have hlt := lt_of_get? ho
    rw [range'_head hlt]
    refine hdo b R ops lo _ k cs h ho (wanted_of t hg) (fun x _ u hu => evT_of t hu) s fun v Γ' h' hφ s' => ?_
    exact (e v Γ' hφ) hrem' rfl _ h' (hset R v t) s'
  | true =>
    obtain ⟨hc, hca⟩ := hc.resolve_left (by simp)
    intro kk od Xs R T h st s l lin
    obtain ⟨hlt, ho, hrem'⟩ := remOf_cons od hrem
    have hnt := od.notTaken hlt
    have hcl := od.closed lo
    have hltx := od.lt lo hlt
    induction lin generalizing R h with
    | nil hn =>
      exact absurd (st.tk _ (all_of_stuck kk hn _ hltx)) hnt
    | @cons Xs i l hx hr hl ih =>
      by_cases ht : Taken ops lo ex i
      · exact quiet_step kk st s hx hr ht fun R' h' st' s' => ih R' h' st' s'
      · have hil : i = ix ex lo := by
          obtain ⟨oi, hoi, hdi⟩ := hr
          obtain ⟨j, hj1, hj2⟩ := od.surj i (lt_of_get? hoi)
          have h1 := List.all_eq_true.1 hc j (List.mem_range.2 hj1)
          simp only [Bool.or_eq_true, decide_eq_true_eq] at h1
          rcases h1 with h1 | h1
          · rcases Nat.lt_or_ge j lo with h2 | h2
            · exact absurd ⟨j, h2, hj1, hj2⟩ ht
            · have : j = lo := by omega
              subst this; exact hj2.symm
          · rw [hj2] at h1
            have := anc_closed kk (S := fun i => Xs i = true) (fun i o hi ho => st.cl i o hi ho) i oi hoi hdi (ix ex lo) hltx h1
            exact absurd (st.tk _ this) hnt
        subst hil
        generalize hix : ix ex lo = i at *
        obtain ⟨o', ho', hdi⟩ := hr
        rw [ho] at ho'; cases ho'
        have hanc := anc_closed kk (S := fun i => Xs i = true) (fun i o hi ho => st.cl i o hi ho) i o ho hdi
        have hread : ∀ s ∈ readsOf ops o, R[s]? = T[s]? := by
          intro s hs
          rcases st.rel s with h1 | ⟨j, _, h2, h3⟩
          · exact h1
          · have := hanc j (lt_of_dst h3) (kk.use i o s j ho hs h3)
            rw [h2] at this; cases this
        have hw : Region.wanted o (yielded ops R) = true := by rw [wanted_congr hread]; exact wanted_of st.tm hg
        refine hdo b R ops i l k cs h ho hw (fun x hx' u hu => (evT_congr hread x hx').trans (evT_of st.tm hu)) s fun v Γ' h' hφ s' => ?_
        have hrg := e v Γ' hφ
        have hts : ∀ j, Taken ops (lo + 1) ex j ↔ Taken ops lo ex j ∨ j = i := fun j => by rw [← hix]; exact taken_succ hlt
        have hancT := anc_closed kk (S := Taken ops lo ex) (fun i o hi ho => hcl i o hi ho)
        refine hrg hrem' kk od (addX Xs i) (putT R o.dst v) (putT T o.dst v) h' ⟨hset T v st.tm, ?_, ?_, ?_, ?_, ?_⟩ s' l hl
        · unfold putT; split
          · rw [Array.size_setIfInBounds]; exact st.sz
          · exact st.sz
        · intro s
          by_cases hs : dstOf ops i = some s
          · left
            have hds : o.dst = some s := by unfold dstOf at hs; rw [ho] at hs; exact hs
            unfold putT; rw [hds]
            dsimp only
            rw [Array.getElem?_setIfInBounds_self_of_lt (by rw [st.sz]; exact hdn s hds), Array.getElem?_setIfInBounds_self_of_lt (by rw [st.tm.size]; exact hdn s hds)]
          · have hP : ∀ R' : Array Value, (putT R' o.dst v)[s]? = R'[s]? := by
              intro R'
              unfold putT
              split
              · rename_i d hd'
                refine Array.getElem?_setIfInBounds_ne fun e => hs ?_
                subst e; unfold dstOf; rw [ho]; exact hd'
              · rfl
            rw [hP, hP]
            rcases st.rel s with h1 | ⟨j, h1, h2, h3⟩
            · exact .inl h1
            · refine .inr ⟨j, (hts j).2 (.inl h1), ?_, h3⟩
              unfold addX
              split
              · rename_i hj; subst hj; exact absurd h3 hs
              · exact h2
        · intro j hj
          unfold addX at hj
          split at hj
          · rename_i hj'; exact (hts j).2 (.inr hj')
          · exact (hts j).2 (.inl (st.tk j hj))
        · intro j o' hj ho' a ha
          unfold addX at hj ⊢
          split at hj
          · rename_i hj'; subst hj'; rw [ho] at ho'; cases ho'
            split
            · rfl
            · exact hdi a ha
          · split
            · rfl
            · exact st.cl j o' hj ho' a ha
        · intro j o' hj ho' hxj
          exfalso
          unfold addX at hxj
          split at hxj
          · cases hxj
          · rename_i hne
            have hj' : Taken ops lo ex j := by
              rcases (hts j).1 hj with h1 | h1
              · exact h1
              · exact absurd h1 hne
            obtain ⟨j0, j1, j2, j3⟩ := hj'
            have h1 := List.all_eq_true.1 hca j0 (List.mem_range.2 j1)
            rw [hix, j3] at h1
            have := hanc j (by rw [← j3]; exact od.lt j0 j2) h1
            rw [hxj] at this; cases this

end
end Go.Lx
