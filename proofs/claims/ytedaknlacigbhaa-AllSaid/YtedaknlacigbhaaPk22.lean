/-
  Lemmas towards the law, proved without conditions of their own: THE REFERENCE: do, a step of a chain; THE REFERENCE: the model's Do; headers in short; THE REFERENCE: the model over the abstract bridge: Do, New; a chain's Look; a header in short; THE REFERENCE: a chain's Look; THE REFERENCE: New.
-/
import Derived.Test.YtedaknlacigbhaaPk21
namespace Go.Br
open Go Go.Lx Go.Proofs
open Go.Lx renaming rg_move → zA, rg_int → zB, rg_nilCheck → zC, rg_fieldAddr0 → zD, rg_fieldAddr → zE, rg_load → zF, rg_assign → zG, rg_loadAgg → zH, rg_extract → zI, rg_not → zJ, rg_pick → zK, rg_off → zL, rg_offU → zM, rg_store → zN, rg_storeAgg → zO, rg_convInt → zP, rg_done → zQ, ex_seq → zR, rg_start_s → zS, rg_start_d → zT, ex_cond_true → zU, ex_cond_false → zV, rg_alloc → zW, rg_boxAgg → zX, rg_build → zY, rg_lenSl → zZ, rg_lenMap → yA, ex_skip → yB, ex_block → yC, ex_inBlock → yD, ex_exit → yE, rg_caseG → yZ
set_option maxRecDepth 100000

theorem OkHd.count {B : Nat} {h : Hd} (ok : OkHd B h) : h.packets.length ≤ B := by
  have key : ∀ (l : List Pk) (lo : Int), l.Pairwise (fun p q => p.seq < q.seq) → (∀ p ∈ l, lo ≤ p.seq ∧ p.seq ≤ B) → lo ≤ B + 1 → (l.length : Int) ≤ B + 1 - lo := by
    intro l
    induction l with
    | nil => intro lo _ _ h; simp; omega
    | cons p l ih =>
      intro lo hp hb _
      rw [List.pairwise_cons] at hp
      have h1 := hb p (List.mem_cons_self ..)
      have := ih (p.seq + 1) hp.2 (fun r hr => by have := hp.1 r hr; have := hb r (List.mem_cons_of_mem _ hr); omega) (by omega)
      simp only [List.length_cons]; omega
  have := key h.packets 1 ok.sorted ok.seqs (by omega)
  omega

set_option maxHeartbeats 4000000 in
theorem rdo_ok (c : Nat) (s : Cn) (x : Stp) (z : RZ) (a : Option Addr) (nh cap B : Nat) (Γ : List Ch) (ok0 : Ok B s) (okk : OkHd B z.1) (hB : B < 100000000) (hx : 0 ≤ x.n ∧ x.n < 18446744073709551616) (hnh : nh < 1000000000) (hkn : s.known < 1000000000) :
    CallsX Try.prog 65 #[ptrV c, stV x, .agg ⟨hdC z⟩, .slice a nh cap] (.pr (RefAt c s) :: .pr (RHead z) :: Γ)
      (fun v Δ => v = .tuple #[.int .u64 (step s x z.1 nh).2.1, .int .i64 (step s x z.1 nh).2.2] ∧ Ent Δ (.pr (RefAt c (step s x z.1 nh).1) :: .pr (RHead z) :: Γ)) := by
  have hcnt := ok0.count
  have hkc := okk.count
  have hrb := ok0.hd.recvB
  have hrk := okk.recvB
  have htm := ok0.hd.time
  have hlen := ok0.len
  have hhg := ok0.hd.height
  refine calls_of_body (args := [ptrV c, stV x, .agg ⟨hdC z⟩, .slice a nh cap]) Try.func65 rfl Try.ntmps65 fun X cs ret => ?_
  refine ex_seq (rg_start_s (rg_boxAgg rfl fun bx => rg_boxAgg rfl fun bz => ?_))
  repeat (first|refine zB rfl rfl rfl ?_|refine zD rfl ?_|refine zF rfl ?_|refine zG rfl ?_|refine zQ ?_|refine zR ?_|refine zS ?_|refine yC ?_)
  unfold step at ret
  refine ex_cond_split rfl (fun k1 => ?_) (fun k1 => ?_)
  · have k1 := of_decide_eq_true k1
    simp only [if_pos k1] at ret
    repeat (first|refine zA rfl ?_|refine zE rfl ?_|refine zH rfl ?_|refine zR ?_|refine zS ?_)
    (refine Rg.front 3 ?_; refine Rg.front 1 ?_; refine Rg.front 2 ?_; refine Rg.front 3 ?_)
    refine rg_call rfl (rsend_ok c s x.p _ (by omega)) ?_
    rintro _ D ⟨rfl, hE⟩
    refine ⟨.inl rfl, Rg.ent hE ?_⟩
    repeat (first|refine zG rfl ?_|refine zI rfl rfl ?_|refine zQ ?_)
    (refine Ex.front 3 ?_; refine Ex.front 1 ?_; refine Ex.front 2 ?_; refine Ex.front 3 ?_)
    exact ex_rete ret Try.func65 rfl (Ent.drop (Ent.drop (Ent.refl _))) ⟨rfl, Ent.refl _⟩
  have k1 := of_decide_eq_false k1
  simp only [if_neg k1] at ret
  repeat (first|refine zB rfl rfl rfl ?_|refine zG rfl ?_|refine zQ ?_|refine zR ?_|refine zS ?_)
  refine ex_cond_split rfl (fun k2 => ?_) (fun k2 => ?_)
  · have k2 := of_decide_eq_true k2
    simp only [if_pos k2] at ret
    repeat refine zR ?_
    (refine Ex.front 2 ?_)
    refine Ex.open_ ref_open fun y ok => ?_
    dsimp only [refL]
    repeat (first|refine zA rfl ?_|refine zB rfl rfl rfl ?_|refine zC rfl ?_|refine zD rfl ?_|refine zE rfl ?_|refine zF rfl ?_|refine zQ ?_|refine zT (by decide+kernel) (by decide+kernel) ?_)
    rw [show IntKind.wrap .u64 (18446744073709551615 - s.hd.time) = 18446744073709551615 - s.hd.time from wu_id (by omega)]
    refine ex_cond_split rfl (fun g1 => ?_) (fun g1 => ?_)
    · have g1 := of_decide_eq_true g1
      simp only [if_pos g1] at ret
      repeat (first|refine zG rfl ?_|refine zQ ?_|refine zR ?_|refine zS ?_)
      (refine Ex.front 4 ?_; refine Ex.front 4 ?_; refine Ex.front 4 ?_; refine Ex.front 4 ?_; refine Ex.front 4 ?_; refine Ex.front 6 ?_; refine Ex.front 6 ?_)
      exact ex_rete ret Try.func65 rfl (Ent.drop (Ent.drop (ref_fold y ok))) ⟨rfl, Ent.refl _⟩
    · have g1 := of_decide_eq_false g1
      simp only [if_neg g1] at ret
      repeat (first|refine zA rfl ?_|refine zB rfl rfl rfl ?_|refine zC rfl ?_|refine zD rfl ?_|refine zE rfl ?_|refine zF rfl ?_|refine zN rfl rfl ?_|refine zQ ?_|refine zR ?_|refine zS ?_|refine zT (by decide+kernel) (by decide+kernel) ?_|refine yB ?_)
      refine Rg.ent (EntR.e (ref_foldR (s := { s with hd := { s.hd with time := wu (s.hd.time + x.n), height := wu (s.hd.height + 1) } }) y (by exact ⟨ok.heads, ok.one⟩))) ?_
      refine rg_call rfl (rcommit_ok c { s with hd := { s.hd with time := wu (s.hd.time + x.n), height := wu (s.hd.height + 1) } } _ (by show s.hd.packets.length < _; omega) (by show s.hd.answers.length < _; omega) (by show s.heads.length < _; omega)) ?_
      rintro _ D ⟨rfl, hE⟩
      refine ⟨.inl rfl, Rg.ent hE ?_⟩
      repeat (first|refine zG rfl ?_|refine zQ ?_|refine zR ?_|refine zS ?_)
      (refine Ex.front 0 ?_; refine Ex.front 2 ?_; refine Ex.front 2 ?_)
      exact ex_rete ret Try.func65 rfl (Ent.drop (Ent.drop (Ent.refl _))) ⟨rfl, Ent.refl _⟩
  have k2 := of_decide_eq_false k2
  simp only [if_neg k2] at ret
  repeat (first|refine zB rfl rfl rfl ?_|refine zG rfl ?_|refine zQ ?_|refine zR ?_|refine zS ?_)
  refine ex_cond_split rfl (fun k3 => ?_) (fun k3 => ?_)
  · have k3 := of_decide_eq_true k3
    simp only [if_pos k3] at ret
    repeat refine zR ?_
    (refine Ex.front 2 ?_)
    refine Ex.open_ ref_open fun y ok => ?_
    dsimp only [refL]
    repeat (first|refine zA rfl ?_|refine zB rfl rfl rfl ?_|refine zE rfl ?_|refine zF rfl ?_|refine zP rfl ?_|refine zT (by decide+kernel) (by decide+kernel) ?_|refine zZ rfl ?_)
    rw [show IntKind.wrap .u64 (nh : Int) = nh from wu_id (by omega)]
    refine rg_caseG rfl rfl (fun h3 => ?_) (fun h3 => ?_)
    · have h3 := of_decide_eq_true h3
      simp only [if_pos (show (nh : Int) ≤ x.n ∨ x.n ≤ s.known from .inl h3)] at ret
      repeat (first|refine zG rfl ?_|refine zK rfl rfl ?_|refine zL rfl rfl rfl rfl (by decide) trivial rfl ?_|refine zQ ?_|refine zR ?_|refine zS ?_|refine zU rfl ?_)
      (refine Ex.front 4 ?_; refine Ex.front 4 ?_; refine Ex.front 4 ?_; refine Ex.front 4 ?_; refine Ex.front 4 ?_; refine Ex.front 6 ?_; refine Ex.front 6 ?_)
      exact ex_rete ret Try.func65 rfl (Ent.drop (Ent.drop (ref_fold y ok))) ⟨rfl, Ent.refl _⟩
    · have h3 := of_decide_eq_false h3
      repeat (first|refine zA rfl ?_|refine zB rfl rfl rfl ?_|refine zC rfl ?_|refine zE rfl ?_|refine zF rfl ?_|refine zK rfl rfl ?_|refine zP rfl ?_|refine zQ ?_)
      rw [show IntKind.wrap .u64 (s.known : Int) = s.known from wu_id (by omega)]
      refine ex_cond_split rfl (fun g1 => ?_) (fun g1 => ?_)
      · have g1 := of_decide_eq_true g1
        simp only [if_pos (show (nh : Int) ≤ x.n ∨ x.n ≤ s.known from .inr g1)] at ret
        repeat (first|refine zG rfl ?_|refine zQ ?_|refine zR ?_|refine zS ?_)
        (refine Ex.front 4 ?_; refine Ex.front 4 ?_; refine Ex.front 4 ?_; refine Ex.front 4 ?_; refine Ex.front 4 ?_; refine Ex.front 6 ?_; refine Ex.front 6 ?_)
        exact ex_rete ret Try.func65 rfl (Ent.drop (Ent.drop (ref_fold y ok))) ⟨rfl, Ent.refl _⟩
      · have g1 := of_decide_eq_false g1
        simp only [if_neg (show ¬ ((nh : Int) ≤ x.n ∨ x.n ≤ s.known) by omega)] at ret
        repeat (first|refine zA rfl ?_|refine zC rfl ?_|refine zE rfl ?_|refine zF rfl ?_|refine zG rfl ?_|refine zN rfl rfl ?_|refine zP rfl ?_|refine zQ ?_|refine zR ?_|refine zS ?_|refine yB ?_)
        rw [rwrap (x := x.n) (by omega), show x.n = ((x.n.toNat : Nat) : Int) by omega]
        (refine Ex.front 4 ?_; refine Ex.front 4 ?_; refine Ex.front 4 ?_; refine Ex.front 4 ?_; refine Ex.front 4 ?_; refine Ex.front 6 ?_; refine Ex.front 6 ?_)
        refine ex_rete ret Try.func65 rfl (Ent.drop (Ent.drop (Ent.refl _))) ⟨rfl, ?_⟩
        exact EntR.e (ref_foldR (s := { s with known := x.n.toNat }) y (by exact ⟨ok.heads, ok.one⟩))
  have k3 := of_decide_eq_false k3
  simp only [if_neg k3] at ret
  repeat (first|refine zB rfl rfl rfl ?_|refine zG rfl ?_|refine zQ ?_|refine zR ?_|refine zS ?_)
  refine ex_cond_split rfl (fun k8 => ?_) (fun k8 => ?_)
  · have k8 := of_decide_eq_true k8
    simp only [if_pos k8] at ret
    repeat refine zR ?_
    (refine Ex.front 2 ?_)
    refine Ex.open_ ref_open fun y ok => ?_
    dsimp only [refL]
    repeat (first|refine zA rfl ?_|refine zC rfl ?_|refine zD rfl ?_|refine zE rfl ?_|refine zF rfl ?_|refine zJ rfl ?_|refine zQ ?_|refine zS ?_)
    refine ex_cond_split rfl (fun g1 => ?_) (fun g1 => ?_)
    · have g1 : s.hd.opn = false := by simpa using g1
      simp only [if_pos g1] at ret
      repeat (first|refine zG rfl ?_|refine zQ ?_|refine zR ?_|refine zS ?_)
      (refine Ex.front 4 ?_; refine Ex.front 4 ?_; refine Ex.front 4 ?_; refine Ex.front 4 ?_; refine Ex.front 4 ?_; refine Ex.front 6 ?_; refine Ex.front 6 ?_)
      exact ex_rete ret Try.func65 rfl (Ent.drop (Ent.drop (ref_fold y ok))) ⟨rfl, Ent.refl _⟩
    · have g1 : ¬ s.hd.opn = false := by simpa using g1
      simp only [if_neg g1] at ret
      repeat (first|refine zA rfl ?_|refine zC rfl ?_|refine zD rfl ?_|refine zE rfl ?_|refine zG rfl ?_|refine zN rfl rfl ?_|refine zQ ?_|refine zR ?_|refine zS ?_|refine yB ?_)
      (refine Ex.front 4 ?_; refine Ex.front 4 ?_; refine Ex.front 4 ?_; refine Ex.front 4 ?_; refine Ex.front 4 ?_; refine Ex.front 6 ?_; refine Ex.front 6 ?_)
      refine ex_rete ret Try.func65 rfl (Ent.drop (Ent.drop (Ent.refl _))) ⟨rfl, ?_⟩
      exact EntR.e (ref_foldR (s := { s with hd := { s.hd with opn := false } }) y (by exact ⟨ok.heads, ok.one⟩))
  have k8 := of_decide_eq_false k8
  simp only [if_neg k8] at ret
  repeat (first|refine zB rfl rfl rfl ?_|refine zG rfl ?_|refine zQ ?_|refine zR ?_|refine zS ?_)
  refine ex_cond_split rfl (fun k9 => ?_) (fun k9 => ?_)
  · have k9 := of_decide_eq_true k9
    simp only [if_pos k9] at ret
    repeat refine zR ?_
    (refine Ex.front 2 ?_)
    refine Ex.open_ ref_open fun y ok => ?_
    dsimp only [refL]
    repeat (first|refine zA rfl ?_|refine zC rfl ?_|refine zD rfl ?_|refine zE rfl ?_|refine zF rfl ?_|refine zJ rfl ?_|refine zQ ?_|refine zS ?_)
    refine ex_cond_split rfl (fun g1 => ?_) (fun g1 => ?_)
    · have g1 : s.hd.opn = false := by simpa using g1
      simp only [if_pos g1] at ret
      repeat (first|refine zG rfl ?_|refine zQ ?_|refine zR ?_|refine zS ?_)
      (refine Ex.front 4 ?_; refine Ex.front 4 ?_; refine Ex.front 4 ?_; refine Ex.front 4 ?_; refine Ex.front 4 ?_; refine Ex.front 6 ?_; refine Ex.front 6 ?_)
      exact ex_rete ret Try.func65 rfl (Ent.drop (Ent.drop (ref_fold y ok))) ⟨rfl, Ent.refl _⟩
    · have g1 : ¬ s.hd.opn = false := by simpa using g1
      simp only [if_neg g1] at ret
      repeat (first|refine zE rfl ?_|refine zF rfl ?_|refine zQ ?_|refine zR ?_|refine zS ?_|refine yB ?_)
      refine ex_cond_split rfl (fun g2 => ?_) (fun g2 => ?_)
      · simp only [if_pos g2] at ret
        repeat (first|refine zG rfl ?_|refine zQ ?_|refine zR ?_|refine zS ?_)
        (refine Ex.front 4 ?_; refine Ex.front 4 ?_; refine Ex.front 4 ?_; refine Ex.front 4 ?_; refine Ex.front 4 ?_; refine Ex.front 6 ?_; refine Ex.front 6 ?_)
        exact ex_rete ret Try.func65 rfl (Ent.drop (Ent.drop (ref_fold y ok))) ⟨rfl, Ent.refl _⟩
      · have g2 : ¬ z.1.opn = true := by simp [g2]
        simp only [if_neg g2] at ret
        repeat (first|refine zA rfl ?_|refine zC rfl ?_|refine zD rfl ?_|refine zE rfl ?_|refine zG rfl ?_|refine zN rfl rfl ?_|refine zQ ?_|refine zR ?_|refine zS ?_|refine yB ?_)
        (refine Ex.front 4 ?_; refine Ex.front 4 ?_; refine Ex.front 4 ?_; refine Ex.front 4 ?_; refine Ex.front 4 ?_; refine Ex.front 6 ?_; refine Ex.front 6 ?_)
        refine ex_rete ret Try.func65 rfl (Ent.drop (Ent.drop (Ent.refl _))) ⟨rfl, ?_⟩
        exact EntR.e (ref_foldR (s := { s with hd := { s.hd with opn := false } }) y (by exact ⟨ok.heads, ok.one⟩))
  have k9 := of_decide_eq_false k9
  simp only [if_neg k9] at ret
  repeat (first|refine zB rfl rfl rfl ?_|refine zG rfl ?_|refine zQ ?_|refine zR ?_|refine zS ?_)
  refine ex_cond_split rfl (fun k4 => ?_) (fun k4 => ?_)
  · have k4 := of_decide_eq_true k4
    simp only [if_pos k4] at ret
    repeat (first|refine zA rfl ?_|refine zE rfl ?_|refine zF rfl ?_|refine zH rfl ?_|refine zR ?_|refine zS ?_)
    (refine Rg.front 0 ?_; refine Rg.front 1 ?_; refine Rg.front 3 ?_; refine Rg.front 3 ?_)
    refine rg_call rfl (rrecv_ok c s x.n z B _ okk (by omega) (by omega)) ?_
    rintro _ D ⟨rfl, hE⟩
    refine ⟨.inl rfl, Rg.ent hE ?_⟩
    repeat (first|refine zG rfl ?_|refine zQ ?_)
    (refine Ex.front 1 ?_; refine Ex.front 1 ?_; refine Ex.front 2 ?_; refine Ex.front 3 ?_)
    exact ex_rete ret Try.func65 rfl (Ent.drop (Ent.drop (Ent.refl _))) ⟨rfl, Ent.refl _⟩
  have k4 := of_decide_eq_false k4
  simp only [if_neg k4] at ret
  repeat (first|refine zB rfl rfl rfl ?_|refine zG rfl ?_|refine zQ ?_|refine zR ?_|refine zS ?_)
  refine ex_cond_split rfl (fun k5 => ?_) (fun k5 => ?_)
  · have k5 := of_decide_eq_true k5
    simp only [if_pos k5] at ret
    repeat (first|refine zA rfl ?_|refine zE rfl ?_|refine zF rfl ?_|refine zH rfl ?_|refine zR ?_|refine zS ?_)
    (refine Rg.front 0 ?_; refine Rg.front 1 ?_; refine Rg.front 3 ?_; refine Rg.front 3 ?_)
    refine rg_call rfl (rack_ok c s x.n z B _ ok0 hB (by omega)) ?_
    rintro _ D ⟨rfl, hE⟩
    refine ⟨.inl rfl, Rg.ent hE ?_⟩
    repeat (first|refine zG rfl ?_|refine zQ ?_)
    (refine Ex.front 1 ?_; refine Ex.front 1 ?_; refine Ex.front 2 ?_; refine Ex.front 3 ?_)
    exact ex_rete ret Try.func65 rfl (Ent.drop (Ent.drop (Ent.refl _))) ⟨rfl, Ent.refl _⟩
  have k5 := of_decide_eq_false k5
  simp only [if_neg k5] at ret
  repeat (first|refine zB rfl rfl rfl ?_|refine zG rfl ?_|refine zQ ?_|refine zR ?_|refine zS ?_)
  refine ex_cond_split rfl (fun k6 => ?_) (fun k6 => ?_)
  · have k6 := of_decide_eq_true k6
    simp only [if_pos k6] at ret
    repeat (first|refine zA rfl ?_|refine zE rfl ?_|refine zF rfl ?_|refine zH rfl ?_|refine zR ?_|refine zS ?_)
    (refine Rg.front 0 ?_; refine Rg.front 1 ?_; refine Rg.front 3 ?_; refine Rg.front 3 ?_)
    refine rg_call rfl (rback_ok c s x.n z false B _ ok0 hB) ?_
    rintro _ D ⟨rfl, hE⟩
    refine ⟨.inl rfl, Rg.ent hE ?_⟩
    repeat (first|refine zG rfl ?_|refine zQ ?_)
    (refine Ex.front 1 ?_; refine Ex.front 1 ?_; refine Ex.front 2 ?_; refine Ex.front 3 ?_)
    exact ex_rete ret Try.func65 rfl (Ent.drop (Ent.drop (Ent.refl _))) ⟨rfl, Ent.refl _⟩
  have k6 := of_decide_eq_false k6
  simp only [if_neg k6] at ret
  repeat (first|refine zB rfl rfl rfl ?_|refine zG rfl ?_|refine zQ ?_|refine zR ?_|refine zS ?_)
  refine ex_cond_split rfl (fun k7 => ?_) (fun k7 => ?_)
  · have k7 := of_decide_eq_true k7
    simp only [if_pos k7] at ret
    repeat (first|refine zA rfl ?_|refine zE rfl ?_|refine zF rfl ?_|refine zH rfl ?_|refine zR ?_|refine zS ?_)
    (refine Rg.front 0 ?_; refine Rg.front 1 ?_; refine Rg.front 3 ?_; refine Rg.front 3 ?_)
    refine rg_call rfl (rback_ok c s x.n z true B _ ok0 hB) ?_
    rintro _ D ⟨rfl, hE⟩
    refine ⟨.inl rfl, Rg.ent hE ?_⟩
    repeat (first|refine zG rfl ?_|refine zQ ?_)
    (refine Ex.front 1 ?_; refine Ex.front 1 ?_; refine Ex.front 2 ?_; refine Ex.front 3 ?_)
    exact ex_rete ret Try.func65 rfl (Ent.drop (Ent.drop (Ent.refl _))) ⟨rfl, Ent.refl _⟩
  have k7 := of_decide_eq_false k7
  simp only [if_neg k7] at ret
  repeat (first|refine zG rfl ?_|refine zQ ?_|refine zR ?_|refine zS ?_|refine yB ?_|refine yD ?_)
  exact ex_rete ret Try.func65 rfl (Ent.drop (Ent.drop (Ent.refl _))) ⟨rfl, Ent.refl _⟩

end Go.Br

namespace Go.Lx
open Go
section
variable {P : Program} {X : Tgt} {b : Base} {n : Nat} {dr : Bool} {ops : Array Oper} {lo : Nat} {ex : List Nat} {fl : Floats} {E : Env} {rem : List Oper} {k : List Item} {cs : List Frame} {Γ Γ' : List Ch}
variable {d : Nat} {T : TypeId} {pos : String} {af : Array Edge} {gd : Option (Nat × Bool)}

/-- A call whose contract says of the heap what entails Γ'. -/
theorem rg_callE {f : FuncId} {args : List Operand} {at' : Array TypeId} {vs : List Value} {v0 : Value} [hb : HasBody P f] (ha : vals E args = some vs) (hc : CallsX P f vs.toArray Γ (fun v Δ => v = v0 ∧ Ent Δ Γ'))
    (e : (dr = false ∨ Reval ops ex lo fl Γ') ∧ Rg P X b n dr ops (lo + 1) ex fl ((d, v0) :: E) rem k cs Γ')
    (hdn : d < n := by decide) (hex : NotYet ex lo := trivial) (hg : GuardOK ops ⟨some d, .call ⟨.value (.func f), ⟨args⟩, at'⟩, T, pos, af, gd⟩ E := by first | exact trivial | exact ⟨_, rfl, rfl⟩)
    (hl : dr = false ∨ chkLast ops lo ex = true := by first | exact .inl rfl | exact .inr (by decide +kernel)) :
    Rg P X b n dr ops lo ex fl E (⟨some d, .call ⟨.value (.func f), ⟨args⟩, at'⟩, T, pos, af, gd⟩ :: rem) k cs Γ :=
  rg_loud (φ := fun v Δ => v = v0 ∧ Δ = Γ') (fun d' e => by cases e; exact hdn) hex hg hl (fun b R ops i l k cs h ho hw hρ st e' => does_call ha (hc X) b R ops i l k cs h ho hw hρ st fun v Δ h' ⟨hv, hE⟩ s' => by
    obtain ⟨h'', le, s''⟩ := hE h' s'
    exact (e' v Γ' h'' ⟨hv, rfl⟩ s'').mono le) (by rintro v Δ ⟨rfl, rfl⟩; exact e)
end
end Go.Lx
namespace Go.Br
open Go Go.Lx Go.Proofs
open Go.Lx renaming rg_move → zA, rg_int → zB, rg_nilCheck → zC, rg_fieldAddr0 → zD, rg_fieldAddr → zE, rg_load → zF, rg_assign → zG, rg_loadAgg → zH, rg_extract → zI, rg_not → zJ, rg_pick → zK, rg_off → zL, rg_offU → zM, rg_store → zN, rg_storeAgg → zO, rg_convInt → zP, rg_done → zQ, ex_seq → zR, rg_start_s → zS, rg_start_d → zT, ex_cond_true → zU, ex_cond_false → zV, rg_alloc → zW, rg_boxAgg → zX, rg_build → zY, rg_lenSl → zZ, rg_lenMap → yA, ex_skip → yB, ex_block → yC, ex_inBlock → yD, ex_exit → yE, rg_caseG → yZ
set_option maxRecDepth 100000

abbrev mdC (m : Nat) (a0 a1 : Value) (tk : Int) : Ch := .pt m true (.cells ⟨[a0, a1, .int .i64 tk]⟩ 136 (0, 0))

abbrev stC (x : Stp) : List Value := [.int .i64 x.kind, .int .u64 x.n, .int .u64 x.p.seq, .int .i64 x.p.frm, .int .i64 x.p.to, .int .i64 x.p.coin, .int .u64 x.p.amount, .int .u64 x.p.height, .int .u64 x.p.time]

set_option maxHeartbeats 4000000 in
theorem rMD_ok (m c o ci : Nat) (a0 a1 : Value) (tk : Int) (s so : Cn) (x : Stp) (nh B : Nat) (Γ : List Ch) (hci : ci < 2) (hc : [a0, a1, Value.int .i64 tk][ci]? = some (ptrV c)) (ho : [a0, a1, Value.int .i64 tk][1 - ci]? = some (ptrV o))
    (ok0 : Ok B s) (oko : Ok B so) (hB : B < 100000000) (hx : 0 ≤ x.n ∧ x.n < 18446744073709551616) (hk : s.known < so.heads.length) (hnh : nh ≤ so.heads.length) :
    CallsX Try.prog 53 #[ptrV m, .int .i64 ci, stV x, .int .i64 nh] (mdC m a0 a1 tk :: .pr (RefAt c s) :: .pr (RefAt o so) :: Γ)
      (fun v Δ => v = .tuple #[.int .u64 (step s x (knOf s so) nh).2.1, .int .i64 (step s x (knOf s so) nh).2.2] ∧
        Ent Δ (mdC m a0 a1 (if (step s x (knOf s so) nh).2.2 = 0 then IntKind.wrap .i64 (tk + 1) else tk) :: .pr (RefAt c (step s x (knOf s so) nh).1) :: .pr (RefAt o so) :: Γ)) := by
  have hsl := heads_len oko hB
  obtain ⟨okk, hkh⟩ := knOf_ok (s := s) oko hk
  refine calls_of_body (args := [ptrV m, .int .i64 ci, stV x, .int .i64 nh]) Try.func53 rfl Try.ntmps53 fun X cs ret => ?_
  refine ex_seq (rg_start_s (rg_boxAgg rfl fun bx => ?_))
  repeat (first|refine zA rfl ?_|refine zC rfl ?_|refine zD rfl ?_|refine zG rfl ?_|refine zQ ?_|refine zR ?_|refine zS ?_)
  refine rg_indexArr rfl rfl (by omega) ?_
  skip
  refine rg_load rfl ?_ (by rw [Int.toNat_natCast, Nat.mul_one, Nat.zero_add]; exact hc)
  repeat (first|refine zA rfl ?_|refine zB rfl rfl rfl ?_|refine zC rfl ?_|refine zD rfl ?_|refine zG rfl ?_|refine zQ ?_|refine zR ?_|refine zS ?_)
  have w1 : IntKind.wrap .i64 (1 - (ci : Int)) = ((1 - ci : Nat) : Int) := by rw [rwrap (by omega)]; omega
  rw [w1]
  refine rg_indexArr rfl rfl (by omega) ?_
  skip
  refine rg_load rfl ?_ (by rw [Int.toNat_natCast, Nat.mul_one, Nat.zero_add]; exact ho)
  repeat (first|refine zG rfl ?_|refine zQ ?_|refine zR ?_)
  (refine Ex.front 0 ?_; refine Ex.front 1 ?_; refine Ex.front 2 ?_; refine Ex.front 3 ?_)
  refine Ex.open_ ref_open fun yo oko' => ?_
  obtain ⟨opv, oav, ohv, ozs⟩ := yo
  dsimp only [refL]
  have hozl : ozs.length = so.heads.length := by rw [← oko'.heads, List.length_map]
  have hzk : s.known < ozs.length := by omega
  have hz1 : ozs[s.known].1 = knOf s so := by
    have e : (ozs.map (·.1))[s.known]? = some ozs[s.known].1 := by rw [List.getElem?_map, List.getElem?_eq_getElem hzk]; rfl
    rw [oko'.heads] at e
    unfold knOf
    rw [List.getD_eq_getElem?_getD, e]; rfl
  generalize hzz : ozs[s.known] = z at hz1
  have hzg : ozs[s.known]? = some z := by rw [List.getElem?_eq_getElem hzk, hzz]
  (refine Ex.front 4 ?_)
  refine Ex.ent (ent_rget (List.mem_of_getElem? hzg)) ?_
  (refine Ex.front 8 ?_; refine Ex.front 8 ?_; refine Ex.front 2 ?_; refine Ex.front 3 ?_; refine Ex.front 6 ?_; refine Ex.front 6 ?_; refine Ex.front 6 ?_; refine Ex.front 8 ?_; refine Ex.front 8 ?_)
  refine ex_slp (p := true) (fun _ _ h => absurd h (by omega)) (fun hb hcap hslack hs hz => ?_)
  subst hs
  (refine Ex.front 1 ?_)
  refine Ex.open_ ref_open fun y ok => ?_
  dsimp only [refL]
  repeat (first|refine zA rfl ?_|refine zC rfl ?_|refine zE rfl ?_|refine zF rfl ?_|refine zH rfl ?_|refine zT (by decide+kernel) (by decide+kernel) ?_)
  refine rg_indexSl rfl rfl ⟨by omega, by omega⟩ ?_
  rw [Int.toNat_natCast, Nat.zero_add (s.known * 6)]
  haveI := sliceL_flat hdC_len ozs s.known z hzg hslack
  refine rg_loadAgg rfl ?_
  repeat (first|refine zA rfl ?_|refine zC rfl ?_|refine zE rfl ?_|refine zF rfl ?_)
  refine rg_sliceHi rfl rfl ⟨by omega, by omega⟩ ?_
  rw [Int.toNat_natCast]
  skip
  have e : Ent (refL c s y (.pt hb true (.cells ⟨ozs.flatMap hdC ++ hslack⟩ 129 (0, 0)) :: .pt o true (.cells ⟨rcCells so opv oav (.slice (some ⟨hb, 0, none⟩) ozs.length hcap)⟩ 132 (0, 0)) :: .pr (SlV 49 7 opv (pkFl so.hd.packets) so.hd.packets.length) :: .pr (SlV 186 2 oav (anFl so.hd.answers) so.hd.answers.length) :: .pr (RHeads ozs) :: .pr (RHead z) :: mdC m a0 a1 tk :: .pt bx true (.cells ⟨stC x⟩ 51 (0, 0)) :: Γ))
      (.pr (RefAt c s) :: .pr (RHead z) :: .pr (RefAt o so) :: mdC m a0 a1 tk :: .pt bx true (.cells ⟨stC x⟩ 51 (0, 0)) :: Γ) := by
    refine Ent.trans (ref_fold y ok) (Ent.cons ?_)
    refine Ent.trans (EntR.e (slp_fold hb hcap hslack hz)) ?_
    refine Ent.trans (front_ent 5) (Ent.cons ?_)
    refine Ent.trans (front_ent 3) (Ent.trans (front_ent 3) (Ent.trans (front_ent 3) ?_))
    exact ref_fold ⟨opv, oav, _, ozs⟩ oko'
  refine rg_callE rfl (CallsX.ent e (rdo_ok c s x z _ nh hcap B _ ok0 (by rw [hz1]; exact okk) hB hx (by omega) (by omega))) ?_
  rw [hz1]
  refine ⟨.inr (by (repeat' first | exact trivial | refine ⟨.inr ⟨_, _, _, _, Find.mem, rfl⟩, ?_⟩ | refine ⟨.inr ⟨_, _, _, _, Find.mem, inferInstance⟩, ?_⟩ | refine ⟨.inr ⟨_, Find.mem⟩, ?_⟩ | refine ⟨.inl (by decide +kernel), ?_⟩)), ?_⟩
  repeat (first|refine zA rfl ?_|refine zB rfl rfl rfl ?_|refine zG rfl ?_|refine zI rfl rfl ?_|refine zQ ?_|refine zR ?_|refine zS ?_)
  refine ex_cond_split rfl (fun h1 => ?_) (fun h1 => ?_)
  · have h1 := of_decide_eq_true h1
    rw [if_pos h1] at ret
    repeat (first|refine zA rfl ?_|refine zB rfl rfl rfl ?_|refine zC rfl ?_|refine zE rfl ?_|refine zF rfl ?_|refine zG rfl ?_|refine zN rfl rfl ?_|refine zQ ?_|refine zR ?_|refine zS ?_)
    (refine Ex.front 2 ?_; refine Ex.front 1 ?_; refine Ex.front 3 ?_; refine Ex.front 3 ?_; refine Ex.front 4 ?_)
    exact ex_rete ret Try.func53 rfl (Ent.drop (Ent.drop (Ent.refl _))) ⟨rfl, Ent.refl _⟩
  · have h1 := of_decide_eq_false h1
    rw [if_neg h1] at ret
    repeat (first|refine zA rfl ?_|refine zG rfl ?_|refine zQ ?_|refine zR ?_|refine zS ?_|refine yB ?_)
    (refine Ex.front 2 ?_; refine Ex.front 1 ?_; refine Ex.front 3 ?_; refine Ex.front 3 ?_; refine Ex.front 4 ?_)
    exact ex_rete ret Try.func53 rfl (Ent.drop (Ent.drop (Ent.refl _))) ⟨rfl, Ent.refl _⟩

end Go.Br

namespace Go.Br
open Go Go.Lx Go.Proofs
open Go.Lx renaming rg_move → zA, rg_int → zB, rg_nilCheck → zC, rg_fieldAddr0 → zD, rg_fieldAddr → zE, rg_load → zF, rg_assign → zG, rg_loadAgg → zH, rg_extract → zI, rg_not → zJ, rg_pick → zK, rg_off → zL, rg_offU → zM, rg_store → zN, rg_storeAgg → zO, rg_convInt → zP, rg_done → zQ, ex_seq → zR, rg_start_s → zS, rg_start_d → zT, ex_cond_true → zU, ex_cond_false → zV, rg_alloc → zW, rg_boxAgg → zX, rg_build → zY, rg_lenSl → zZ, rg_lenMap → yA, ex_skip → yB, ex_block → yC, ex_inBlock → yD, ex_exit → yE, rg_caseG → yZ
set_option maxRecDepth 100000

/-- The model of the document at a block. -/
def ModAt (m : Nat) (S : Bg) : LH → Prop := fun h => ∃ z : Nat × Nat, Star [mdC m (ptrV z.1) (ptrV z.2) S.tk, .pr (RefAt z.1 S.s0), .pr (RefAt z.2 S.s1)] h

theorem mod_open {m : Nat} {S : Bg} {Γ : List Ch} : ∀ h, Star (.pr (ModAt m S) :: Γ) h → ∃ z : Nat × Nat, True ∧ Star (mdC m (ptrV z.1) (ptrV z.2) S.tk :: .pr (RefAt z.1 S.s0) :: .pr (RefAt z.2 S.s1) :: Γ) h := fun h st => by
  obtain ⟨z, st⟩ := Star.ex.1 st
  exact ⟨z, trivial, Star.open_.1 st⟩

theorem mod_fold {m : Nat} {S : Bg} {Γ : List Ch} (c0 c1 : Nat) {tk : Int} (h : tk = S.tk) : EntR (.pr (ModAt m S) :: Γ) (mdC m (ptrV c0) (ptrV c1) tk :: .pr (RefAt c0 S.s0) :: .pr (RefAt c1 S.s1) :: Γ) := by
  subst h
  exact Ent.star fun h st => Star.ex.2 ⟨(c0, c1), Star.open_.2 st⟩

theorem RDo_bg (m : Nat) (S : Bg) (c : Int) (x : Stp) (nh B : Nat) (Γ : List Ch) (ok : BgOk B S) (hB : B < 100000000) (hx : 0 ≤ x.n ∧ x.n < 18446744073709551616) (hc : c = 0 ∨ c = 1) (hnh : nh ≤ (if c = 0 then S.s1.heads.length else S.s0.heads.length)) :
    CallsX Try.prog 53 #[ptrV m, .int .i64 c, stV x, .int .i64 nh] (.pr (ModAt m S) :: Γ)
      (fun v Δ => v = .tuple #[.int .u64 (bgStep S c x nh).2.1, .int .i64 (bgStep S c x nh).2.2] ∧ Ent Δ (.pr (ModAt m (bgStep S c x nh).1) :: Γ)) := by
  have htk := ok.tk
  refine CallsX.open_ mod_open fun z _ => ?_
  obtain ⟨c0, c1⟩ := z
  dsimp only
  rcases hc with rfl | rfl
  · refine (rMD_ok m c0 c1 0 (ptrV c0) (ptrV c1) S.tk S.s0 S.s1 x nh B Γ (by omega) rfl rfl ok.ok0 ok.ok1 hB hx ok.k0 (by simpa using hnh)).mono ?_
    rintro v Δ ⟨rfl, hE⟩
    refine ⟨rfl, Ent.trans hE (EntR.e (mod_fold (S := (bgStep S 0 x nh).1) c0 c1 ?_))⟩
    show _ = if _ = 0 then S.tk + 1 else S.tk
    rw [wrap_tk (by omega)]
  · refine CallsX.ent (Ent.cons (front_ent 1)) ?_
    refine (rMD_ok m c1 c0 1 (ptrV c0) (ptrV c1) S.tk S.s1 S.s0 x nh B Γ (by omega) rfl rfl ok.ok1 ok.ok0 hB hx ok.k1 (by simpa using hnh)).mono ?_
    rintro v Δ ⟨rfl, hE⟩
    refine ⟨rfl, Ent.trans hE (Ent.trans (Ent.cons (front_ent 1)) (EntR.e (mod_fold (S := (bgStep S 1 x nh).1) c0 c1 ?_)))⟩
    show _ = if _ = 0 then S.tk + 1 else S.tk
    rw [wrap_tk (by omega)]

/-! a header in short -/

theorem rhead_ok (x : Hd) (a1 a2 : Option Addr) (k1 k2 : Nat) (Γ : List Ch) :
    CallsX Try.prog 55 #[.agg ⟨hdC (x, .slice a1 x.packets.length k1, .slice a2 x.answers.length k2)⟩] Γ (fun v Δ => v = .agg ⟨shL (shOf x)⟩ ∧ Ent Δ Γ) := by
  refine calls_of_body (args := [.agg ⟨hdC (x, .slice a1 x.packets.length k1, .slice a2 x.answers.length k2)⟩]) Try.func55 rfl Try.ntmps55 fun X cs ret => ?_
  repeat (first|refine zD rfl ?_|refine zE rfl ?_|refine zF rfl ?_|refine zO rfl rfl ?_|refine zQ ?_|refine zR ?_|refine zS ?_|refine zW fun bl=>?_|refine zX rfl fun bl=>?_|refine zY rfl ?_|refine zZ rfl ?_)
  exact ex_retC ret Try.func55 (Ent.refl _) (.agg (vs := []) (ul := shL (shOf x)) rfl (List.mem_cons_self ..) inferInstance .nil) ⟨rfl, Ent.drop (Ent.drop (Ent.refl _))⟩

theorem slp_shape {p : Bool} {el m : Nat} {s : Value} {xs : List Value} {len : Nat} {h : LH} (v : SlP p el m s xs len h) : ∃ a cap, s = .slice a len cap := by
  rcases v with ⟨h1, _, h3⟩ | ⟨bl, cap, _, h1, _⟩
  · exact ⟨none, 0, by rw [h1, h3]⟩
  · exact ⟨_, cap, h1⟩

end Go.Br

namespace Go.Br
open Go Go.Lx Go.Proofs
open Go.Lx renaming rg_move → zA, rg_int → zB, rg_nilCheck → zC, rg_fieldAddr0 → zD, rg_fieldAddr → zE, rg_load → zF, rg_assign → zG, rg_loadAgg → zH, rg_extract → zI, rg_not → zJ, rg_pick → zK, rg_off → zL, rg_offU → zM, rg_store → zN, rg_storeAgg → zO, rg_convInt → zP, rg_done → zQ, ex_seq → zR, rg_start_s → zS, rg_start_d → zT, ex_cond_true → zU, ex_cond_false → zV, rg_alloc → zW, rg_boxAgg → zX, rg_build → zY, rg_lenSl → zZ, rg_lenMap → yA, ex_skip → yB, ex_block → yC, ex_inBlock → yD, ex_exit → yE, rg_caseG → yZ
set_option maxRecDepth 100000

theorem sliceL_flatK {α : Type} {f : α → List Value} {m : Nat} (hf : ∀ a, (f a).length = m) (l : List α) (i : Nat) (hi : i < l.length) (slack : List Value) : SliceL (l.flatMap f ++ slack) (i * m) m (f l[i]) := sliceL_flat hf l i _ (List.getElem?_eq_getElem hi) slack

theorem slp_shapeO {p : Bool} {el m : Nat} {s : Value} {xs : List Value} {len : Nat} {Γ : List Ch} : ∀ h, Star (.pr (SlP p el m s xs len) :: Γ) h → ∃ w : Option Addr × Nat, s = .slice w.1 len w.2 ∧ Star (.pr (SlP p el m s xs len) :: Γ) h := fun h st => by
  obtain ⟨h1, h2, j, v1, st'⟩ := id st
  obtain ⟨a1, k1, e1⟩ := slp_shape v1
  exact ⟨(a1, k1), e1, st⟩

theorem take_snoc {α β : Type} (f : α → β) (l : List α) (i : Nat) (h : i < l.length) : (l.take (i + 1)).map f = (l.take i).map f ++ [f l[i]] := by
  rw [List.take_succ_eq_append_getElem h, List.map_append]; rfl

set_option maxHeartbeats 2000000 in
theorem rlook_ok (c : Nat) (s : Cn) (kn : Hd) (B : Nat) (Γ : List Ch) (ok0 : Ok B s) (hB : B < 100000000) (hkn : kn.height = s.known) (hk : s.known < 1000000000) :
    CallsX Try.prog 66 #[ptrV c] (.pr (RefAt c s) :: Γ)
      (fun v Δ => ∃ a cap, v = .agg ⟨lookL s kn (.slice a s.hd.packets.length cap)⟩ ∧ Ent Δ (.pr (SlV 36 1 (.slice a s.hd.packets.length cap) (s.hd.packets.map qV) s.hd.packets.length) :: .pr (RefAt c s) :: Γ)) := by
  have hcnt := ok0.count
  refine CallsX.open_ ref_open fun y ok => ?_
  obtain ⟨pv, av, hv, zs⟩ := y
  refine calls_of_body (args := [ptrV c]) Try.func66 rfl Try.ntmps66 fun X cs ret => ?_
  dsimp only [refL]
  (refine Ex.front 1 ?_)
  refine Ex.open_ (slp_shapeO (p := true)) fun w hw => ?_
  obtain ⟨pa, pcap⟩ := w
  dsimp only at hw
  subst hw
  (refine Ex.front 1 ?_)
  refine ex_seq (rg_start_s (rg_alloc fun br => ?_))
  repeat (first|refine zA rfl ?_|refine zC rfl ?_|refine zD rfl ?_|refine zE rfl ?_|refine zF rfl ?_|refine zO rfl rfl ?_|refine zP rfl ?_|refine zQ ?_|refine zR ?_|refine zS ?_|refine zT (by decide+kernel) (by decide+kernel) ?_|refine zW fun bl=>?_|refine zY rfl ?_|refine zZ rfl ?_|refine yC ?_)
  rw [show IntKind.wrap .u64 (s.known : Int) = kn.height from by rw [hkn]; exact wu_id (by omega)]
  skip
  obtain ⟨lk, hlk⟩ : ∃ x, x = bl := ⟨_, rfl⟩
  subst hlk
  refine ex_loop ?_
  refine Ex.ent (ent_nil (el := 36) (m := 1)) ?_
  (refine Ex.front 4 ?_; refine Ex.front 4 ?_; refine Ex.front 4 ?_; refine Ex.front 3 ?_; refine Ex.front 4 ?_)
  refine ex_ind (ι := Nat × Option Addr × Nat) (fun i => s.hd.packets.length + 1 - i.1) (fun i => [(50, .int .i64 i.1), (49, .int .i64 s.hd.packets.length), (48, .slice pa s.hd.packets.length pcap), (3, ptrV lk), (2, ptrV br), (0, ptrV c)])
    (fun i => .pt lk true (.cells ⟨lookL s kn (.slice i.2.1 i.1 i.2.2)⟩ 55 (0, 0)) :: .pr (SlV 36 1 (.slice i.2.1 i.1 i.2.2) ((s.hd.packets.take i.1).map qV) i.1) :: .pt br true (.cells ⟨[.int .u64 0, .int .u64 0, .int .u64 0, .bool false, .int .u64 0, .int .u64 0, .slice none 0 0, .int .u64 0, .int .u64 0]⟩ 55 (0, 0)) :: refL c s ⟨.slice pa s.hd.packets.length pcap, av, hv, zs⟩ Γ)
    (fun i => i.1 ≤ s.hd.packets.length) (0, none, 0) (Nat.zero_le _) ⟨rfl, rfl, rfl, rfl, rfl, rfl, trivial⟩ (by rw [List.take_zero]; rfl) (fun (i, ia, icap) hi IH => ?_)
  dsimp only at hi ⊢
  repeat (first|refine zB rfl rfl rfl ?_|refine zQ ?_|refine zR ?_|refine zS ?_)
  refine ex_cond_split rfl (fun h1 => ?_) (fun h1 => ?_)
  · have hlt : i < s.hd.packets.length := by have := of_decide_eq_true h1; omega
    repeat (first|refine zR ?_|refine yB ?_|refine yC ?_)
    (refine Ex.front 4 ?_)
    refine ex_slp (p := true) (fun _ _ h => absurd h (by omega)) (fun b0 cap slack hs hz => ?_)
    simp only [Value.slice.injEq, true_and] at hs
    obtain ⟨rfl, rfl⟩ := hs
    repeat refine zS ?_
    refine rg_indexSl rfl rfl ⟨by omega, by omega⟩ ?_
    rw [Int.toNat_natCast, Nat.zero_add (i * 7)]
    haveI := sliceL_flatK pkC_len s.hd.packets i hlt slack
    refine rg_loadAgg rfl ?_
    repeat (first|refine zD rfl ?_|refine zE rfl ?_|refine zF rfl ?_|refine zO rfl rfl ?_|refine zQ ?_|refine zS ?_|refine zW fun bl=>?_)
    refine rg_buildSlice (vs := [qV s.hd.packets[i]]) rfl rfl rfl rfl (fun b2 => ?_)
    (refine Rg.front 4 ?_)
    refine rg_append (xs := (s.hd.packets.take i).map qV) (ys := [qV s.hd.packets[i]]) (len := i) (c := 1) rfl rfl (.inr ⟨b2, 0, 1, true, [qV s.hd.packets[i]], 36, (0, 0), rfl, Find.mem, inferInstance⟩) (fun v hv => by rw [List.mem_singleton.1 hv]; rfl) (by omega) (by omega) (fun s' => .inl rfl) (fun s' hone => ?_)
    repeat refine zE rfl ?_
    refine rg_store rfl rfl ?_ hone
    repeat (first|refine zQ ?_|refine yD ?_)
    (refine Ex.front 6 ?_; refine Ex.front 6 ?_; refine Ex.front 6 ?_; refine Ex.front 3 ?_; refine Ex.front 6 ?_; refine Ex.front 6 ?_; refine Ex.front 6 ?_)
    refine Ex.drop (Ex.drop (Ex.ent (EntR.e (slp_fold b0 pcap slack hz)) ?_))
    (refine Ex.front 1 ?_)
    refine Ex.open_ (slp_shapeO (p := true)) fun w hw => ?_
    obtain ⟨a', cap'⟩ := w
    dsimp only at hw
    subst hw
    rw [← take_snoc qV s.hd.packets i hlt]
    (refine Ex.front 1 ?_; refine Ex.front 4 ?_; refine Ex.front 4 ?_; refine Ex.front 3 ?_; refine Ex.front 4 ?_)
    repeat (first|refine zA rfl ?_|refine zB rfl rfl rfl ?_|refine zQ ?_|refine zS ?_)
    rw [rwrap (x := (i : Int) + 1) (by omega)]
    refine ex_inLoop ?_
    exact Ex.sup (IH (i + 1, a', cap') (by dsimp only; omega) (by dsimp only; omega)) ⟨rfl, rfl, rfl, rfl, rfl, rfl, trivial⟩
  · have hge : i = s.hd.packets.length := by have := of_decide_eq_false h1; omega
    subst hge
    rw [List.take_length]
    repeat (first|refine zH rfl ?_|refine zO rfl rfl ?_|refine zQ ?_|refine zR ?_|refine zS ?_|refine yE rfl ?_)
    (refine Ex.front 0 ?_; refine Ex.front 3 ?_; refine Ex.front 2 ?_; refine Ex.front 3 ?_)
    refine ex_retC ret Try.func66 (Ent.refl _) (.agg (ul := lookL s kn (.slice ia s.hd.packets.length icap)) rfl (List.mem_cons_self ..) inferInstance .nil) ⟨ia, icap, rfl, ?_⟩
    refine Ent.drop (Ent.cons ?_)
    refine Ent.trans (front_ent 1) (Ent.drop (ref_fold (s := s) ⟨.slice pa s.hd.packets.length pcap, av, hv, zs⟩ ok))

end Go.Br

namespace Go.Br
open Go Go.Lx Go.Proofs
open Go.Lx renaming rg_move → zA, rg_int → zB, rg_nilCheck → zC, rg_fieldAddr0 → zD, rg_fieldAddr → zE, rg_load → zF, rg_assign → zG, rg_loadAgg → zH, rg_extract → zI, rg_not → zJ, rg_pick → zK, rg_off → zL, rg_offU → zM, rg_store → zN, rg_storeAgg → zO, rg_convInt → zP, rg_done → zQ, ex_seq → zR, rg_start_s → zS, rg_start_d → zT, ex_cond_true → zU, ex_cond_false → zV, rg_alloc → zW, rg_boxAgg → zX, rg_build → zY, rg_lenSl → zZ, rg_lenMap → yA, ex_skip → yB, ex_block → yC, ex_inBlock → yD, ex_exit → yE, rg_caseG → yZ
set_option maxRecDepth 100000

abbrev cn0 (n co : Int) : Cn := { n := n, hd := hd0, has := fun u c => if isUser u = true ∧ c = n then co else 0, locked := 0, about := 0, nsend := 1, heads := [], known := 0 }
theorem newCn_eq (n co : Int) : newCn n co = commit (cn0 n co) := rfl

theorem ent_rnil {Γ : List Ch} : Ent Γ (.pr (RHeads []) :: Γ) := .star fun h st => ⟨fun _ => none, h, fun _ => .inl ⟨rfl, rfl⟩, (fun _ hz => by cases hz), st⟩

theorem ref_new {c : Nat} {s : Cn} {Γ : List Ch} (h1 : s.hd.packets = []) (h2 : s.hd.answers = []) (h3 : s.heads = []) : EntR (.pr (RefAt c s) :: Γ) (.pt c true (.cells ⟨rcCells s (.slice none 0 0) (.slice none 0 0) (.slice none 0 0)⟩ 132 (0, 0)) :: Γ) := by
  refine Ent.trans (Ent.cons (Ent.trans ent_rnil (Ent.trans (ent_nil (el := 129) (m := 6)) (Ent.trans (ent_nil (el := 186) (m := 2)) (ent_nil (el := 49) (m := 7)))))) ?_
  have := ref_fold (c := c) (s := s) (Γ := Γ) ⟨.slice none 0 0, .slice none 0 0, .slice none 0 0, []⟩ ⟨by rw [h3]; rfl, by simp⟩
  dsimp only [refL] at this
  rw [h1, h2] at this
  exact this

theorem cells0 (co : Int) (pv av hv : Value) : rcCells (cn0 0 co) pv av hv = [.int .u64 0, .int .u64 0, .bool true, .int .u64 1, pv, av, .int .i64 0, .int .u64 co, .int .u64 0, .int .u64 co, .int .u64 0, .int .u64 co, .int .u64 0, .int .u64 0, .int .u64 0, .int .u64 1, hv, .int .i64 0] := by
  simp [isUser, rcCells]
theorem cells1 (co : Int) (pv av hv : Value) : rcCells (cn0 1 co) pv av hv = [.int .u64 0, .int .u64 0, .bool true, .int .u64 1, pv, av, .int .i64 1, .int .u64 0, .int .u64 co, .int .u64 0, .int .u64 co, .int .u64 0, .int .u64 co, .int .u64 0, .int .u64 0, .int .u64 1, hv, .int .i64 0] := by
  simp [isUser, rcCells]

set_option maxHeartbeats 4000000 in
theorem rnew_ok (co : Int) (Γ : List Ch) (hc : 0 ≤ co ∧ co ≤ 1152921504606846976) :
    CallsX Try.prog 51 #[.int .u64 co] Γ (fun v Δ => ∃ m, v = .tuple #[ptrV m, .bool true] ∧ Ent Δ (.pr (ModAt m (bgNew co)) :: Γ)) := by
  refine calls_of_body (args := [.int .u64 co]) Try.func51 rfl Try.ntmps51 fun X cs ret => ?_
  repeat (first|refine zA rfl ?_|refine zB rfl rfl rfl ?_|refine zG rfl ?_|refine zQ ?_|refine zR ?_|refine zS ?_)
  refine ex_cond_split rfl (fun h1 => ?_) (fun _ => ?_)
  · exact absurd (of_decide_eq_true h1) (by omega)
  repeat (first|refine zA rfl ?_|refine zG rfl ?_|refine zQ ?_|refine zR ?_|refine zS ?_|refine zX rfl fun bl=>?_|refine zY rfl ?_|refine yB ?_|refine yC ?_)
  refine ex_loop ?_
  repeat (first|refine zA rfl ?_|refine zB rfl rfl rfl ?_|refine zC rfl ?_|refine zD rfl ?_|refine zE rfl ?_|refine zG rfl ?_|refine zN rfl rfl ?_|refine zQ ?_|refine zR ?_|refine zS ?_|refine zU rfl ?_|refine zX rfl fun bl=>?_|refine zY rfl ?_|refine yB ?_|refine yC ?_)
  obtain ⟨c0, hnew⟩ : ∃ x, x = bl := ⟨_, rfl⟩
  subst hnew
  refine ex_loop ?_
  repeat (first|refine zA rfl ?_|refine zB rfl rfl rfl ?_|refine zC rfl ?_|refine zE rfl ?_|refine zG rfl ?_|refine zQ ?_|refine zR ?_|refine zS ?_|refine zU rfl ?_|refine yB ?_|refine yC ?_)
  refine rg_indexArr rfl rfl (by decide) ?_
  skip
  refine rg_indexArr rfl rfl (by decide) ?_
  rw [show (0 + 7 + Int.toNat 0 * 2 + Int.toNat 0 * 1 : Nat) = 7 from rfl]
  repeat (first|refine zA rfl ?_|refine zB rfl rfl rfl ?_|refine zN rfl rfl ?_|refine zQ ?_|refine zS ?_|refine yD ?_)
  rw [show IntKind.wrap .i64 (0 + 1) = 1 from by decide]
  refine ex_inLoop ?_
  repeat (first|refine zA rfl ?_|refine zB rfl rfl rfl ?_|refine zC rfl ?_|refine zE rfl ?_|refine zG rfl ?_|refine zQ ?_|refine zR ?_|refine zS ?_|refine zU rfl ?_|refine yB ?_|refine yC ?_)
  refine rg_indexArr rfl rfl (by decide) ?_
  skip
  refine rg_indexArr rfl rfl (by decide) ?_
  rw [show (0 + 7 + Int.toNat 1 * 2 + Int.toNat 0 * 1 : Nat) = 9 from rfl]
  repeat (first|refine zA rfl ?_|refine zB rfl rfl rfl ?_|refine zN rfl rfl ?_|refine zQ ?_|refine zS ?_|refine yD ?_)
  rw [show IntKind.wrap .i64 (1 + 1) = 2 from by decide]
  refine ex_inLoop ?_
  repeat (first|refine zA rfl ?_|refine zB rfl rfl rfl ?_|refine zC rfl ?_|refine zE rfl ?_|refine zG rfl ?_|refine zQ ?_|refine zR ?_|refine zS ?_|refine zU rfl ?_|refine yB ?_|refine yC ?_)
  refine rg_indexArr rfl rfl (by decide) ?_
  skip
  refine rg_indexArr rfl rfl (by decide) ?_
  rw [show (0 + 7 + Int.toNat 2 * 2 + Int.toNat 0 * 1 : Nat) = 11 from rfl]
  repeat (first|refine zA rfl ?_|refine zB rfl rfl rfl ?_|refine zN rfl rfl ?_|refine zQ ?_|refine zS ?_|refine yD ?_)
  rw [show IntKind.wrap .i64 (2 + 1) = 3 from by decide]
  refine ex_inLoop ?_
  repeat (first|refine zA rfl ?_|refine zB rfl rfl rfl ?_|refine zQ ?_|refine zR ?_|refine zS ?_|refine zV rfl ?_|refine yE rfl ?_)
  rw [show Ch.pt c0 true (.cells ⟨_⟩ 132 (0, 0)) = Ch.pt c0 true (.cells ⟨rcCells (cn0 0 co) (.slice none 0 0) (.slice none 0 0) (.slice none 0 0)⟩ 132 (0, 0)) from by rw [cells0]]
  refine rg_callE rfl (CallsX.ent (EntR.e (ref_new (s := cn0 0 co) rfl rfl rfl)) (rcommit_ok c0 (cn0 0 co) _ (by simp) (by simp) (by simp))) ?_
  refine ⟨.inl rfl, ?_⟩
  rw [← newCn_eq]
  repeat (first|refine zA rfl ?_|refine zC rfl ?_|refine zD rfl ?_|refine zQ ?_|refine zS ?_)
  refine rg_indexArr rfl rfl (by decide) ?_
  rw [show (0 + Int.toNat 0 * 1 : Nat) = 0 from rfl]
  repeat (first|refine zA rfl ?_|refine zB rfl rfl rfl ?_|refine zN rfl rfl ?_|refine zQ ?_|refine zS ?_|refine yD ?_)
  rw [show IntKind.wrap .i64 (0 + 1) = 1 from by decide]
  refine ex_inLoop ?_
  repeat (first|refine zA rfl ?_|refine zB rfl rfl rfl ?_|refine zC rfl ?_|refine zD rfl ?_|refine zE rfl ?_|refine zG rfl ?_|refine zN rfl rfl ?_|refine zQ ?_|refine zR ?_|refine zS ?_|refine zU rfl ?_|refine zX rfl fun bl=>?_|refine zY rfl ?_|refine yB ?_|refine yC ?_)
  obtain ⟨c1, hnew⟩ : ∃ x, x = bl := ⟨_, rfl⟩
  subst hnew
  refine ex_loop ?_
  repeat (first|refine zA rfl ?_|refine zB rfl rfl rfl ?_|refine zC rfl ?_|refine zE rfl ?_|refine zG rfl ?_|refine zQ ?_|refine zR ?_|refine zS ?_|refine zU rfl ?_|refine yB ?_|refine yC ?_)
  refine rg_indexArr rfl rfl (by decide) ?_
  skip
  refine rg_indexArr rfl rfl (by decide) ?_
  rw [show (0 + 7 + Int.toNat 0 * 2 + Int.toNat 1 * 1 : Nat) = 8 from rfl]
  repeat (first|refine zA rfl ?_|refine zB rfl rfl rfl ?_|refine zN rfl rfl ?_|refine zQ ?_|refine zS ?_|refine yD ?_)
  rw [show IntKind.wrap .i64 (0 + 1) = 1 from by decide]
  refine ex_inLoop ?_
  repeat (first|refine zA rfl ?_|refine zB rfl rfl rfl ?_|refine zC rfl ?_|refine zE rfl ?_|refine zG rfl ?_|refine zQ ?_|refine zR ?_|refine zS ?_|refine zU rfl ?_|refine yB ?_|refine yC ?_)
  refine rg_indexArr rfl rfl (by decide) ?_
  skip
  refine rg_indexArr rfl rfl (by decide) ?_
  rw [show (0 + 7 + Int.toNat 1 * 2 + Int.toNat 1 * 1 : Nat) = 10 from rfl]
  repeat (first|refine zA rfl ?_|refine zB rfl rfl rfl ?_|refine zN rfl rfl ?_|refine zQ ?_|refine zS ?_|refine yD ?_)
  rw [show IntKind.wrap .i64 (1 + 1) = 2 from by decide]
  refine ex_inLoop ?_
  repeat (first|refine zA rfl ?_|refine zB rfl rfl rfl ?_|refine zC rfl ?_|refine zE rfl ?_|refine zG rfl ?_|refine zQ ?_|refine zR ?_|refine zS ?_|refine zU rfl ?_|refine yB ?_|refine yC ?_)
  refine rg_indexArr rfl rfl (by decide) ?_
  skip
  refine rg_indexArr rfl rfl (by decide) ?_
  rw [show (0 + 7 + Int.toNat 2 * 2 + Int.toNat 1 * 1 : Nat) = 12 from rfl]
  repeat (first|refine zA rfl ?_|refine zB rfl rfl rfl ?_|refine zN rfl rfl ?_|refine zQ ?_|refine zS ?_|refine yD ?_)
  rw [show IntKind.wrap .i64 (2 + 1) = 3 from by decide]
  refine ex_inLoop ?_
  repeat (first|refine zA rfl ?_|refine zB rfl rfl rfl ?_|refine zQ ?_|refine zR ?_|refine zS ?_|refine zV rfl ?_|refine yE rfl ?_)
  rw [show Ch.pt c1 true (.cells ⟨_⟩ 132 (0, 0)) = Ch.pt c1 true (.cells ⟨rcCells (cn0 1 co) (.slice none 0 0) (.slice none 0 0) (.slice none 0 0)⟩ 132 (0, 0)) from by rw [cells1]]
  refine rg_callE rfl (CallsX.ent (EntR.e (ref_new (s := cn0 1 co) rfl rfl rfl)) (rcommit_ok c1 (cn0 1 co) _ (by simp) (by simp) (by simp))) ?_
  refine ⟨.inl rfl, ?_⟩
  rw [← newCn_eq]
  repeat (first|refine zA rfl ?_|refine zC rfl ?_|refine zD rfl ?_|refine zQ ?_|refine zS ?_)
  refine rg_indexArr rfl rfl (by decide) ?_
  rw [show (0 + Int.toNat 1 * 1 : Nat) = 1 from rfl]
  repeat (first|refine zA rfl ?_|refine zB rfl rfl rfl ?_|refine zN rfl rfl ?_|refine zQ ?_|refine zS ?_|refine yD ?_)
  rw [show IntKind.wrap .i64 (1 + 1) = 2 from by decide]
  refine ex_inLoop ?_
  repeat (first|refine zA rfl ?_|refine zB rfl rfl rfl ?_|refine zG rfl ?_|refine zQ ?_|refine zR ?_|refine zS ?_|refine zV rfl ?_|refine yE rfl ?_)
  (refine Ex.front 0 ?_; refine Ex.front 1 ?_; refine Ex.front 2 ?_)
  exact ex_rete ret Try.func51 rfl (EntR.e (mod_fold (S := bgNew co) c0 c1 rfl)) ⟨bl, rfl, Ent.refl _⟩

theorem rnewX_ok (co : Int) (Γ : List Ch) (hc : 1152921504606846976 < co) :
    CallsX Try.prog 51 #[.int .u64 co] Γ (fun v Δ => v = .tuple #[.pointer none, .bool false] ∧ Δ = Γ) := by
  refine calls_of_body (args := [.int .u64 co]) Try.func51 rfl Try.ntmps51 fun X cs ret => ?_
  repeat (first|refine zA rfl ?_|refine zB rfl rfl rfl ?_|refine zG rfl ?_|refine zQ ?_|refine zR ?_|refine zS ?_)
  refine ex_cond_split rfl (fun _ => ?_) (fun h1 => ?_)
  · repeat (first|refine zG rfl ?_|refine zQ ?_|refine zR ?_|refine zS ?_)
    exact ex_retc ret Try.func51 rfl ⟨rfl, rfl⟩
  · exact absurd (of_decide_eq_false h1) (by omega)

end Go.Br
