/-
  Lemmas towards the law, proved without conditions of their own: THE LAW: small, played, UpTo; THE LAW: small, UpTo; THE SCRIPT OF THE STATEMENTS: what the kit's reading of it says of the memory.
-/
import Derived.Test.YtedaknlacigbhabPk22
import Derived.Test.YtedaknlacigbhabPk11
import Derived.Deep.Slices
import Derived.ChangeArms
namespace Go.Br
open Go Go.Lx Go.Proofs
open Go.Lx renaming rg_move → zA, rg_int → zB, rg_nilCheck → zC, rg_fieldAddr0 → zD, rg_fieldAddr → zE, rg_load → zF, rg_assign → zG, rg_loadAgg → zH, rg_extract → zI, rg_not → zJ, rg_pick → zK, rg_off → zL, rg_offU → zM, rg_store → zN, rg_storeAgg → zO, rg_convInt → zP, rg_done → zQ, ex_seq → zR, rg_start_s → zS, rg_start_d → zT, ex_cond_true → zU, ex_cond_false → zV, rg_alloc → zW, rg_boxAgg → zX, rg_build → zY, rg_lenSl → zZ, rg_lenMap → yA, ex_skip → yB, ex_block → yC, ex_inBlock → yD, ex_exit → yE, rg_caseG → yZ
set_option maxRecDepth 100000

set_option maxHeartbeats 4000000 in
theorem played_ok (o : Opn) (k : Int) (Γ : List Ch) (hk : 1 ≤ k ∧ k ≤ 7) :
    CallsX Try.prog 8 #[opV o, .int .i64 k] Γ (fun v Δ => ∃ b, v = .bool b ∧ (b = true → o.kind ≠ 8) ∧ Ent Δ Γ) := by
  obtain ⟨kind, oa, oc, os, oL, oM, on', od⟩ := o
  dsimp only [opV, opC]
  refine calls_of_body (args := [.agg ⟨[.int .i64 kind, .int .i64 oa, .int .i64 oc, .int .i64 os.kind, .int .u64 os.n, .int .u64 os.p.seq, .int .i64 os.p.frm, .int .i64 os.p.to, .int .i64 os.p.coin, .int .u64 os.p.amount, .int .u64 os.p.height, .int .u64 os.p.time, oL, oM, .int .u64 on', .int .i64 od]⟩, .int .i64 k]) Try.func8 rfl Try.ntmps8 fun X cs ret => ?_
  have hk' : k = 1 ∨ k = 2 ∨ k = 3 ∨ k = 4 ∨ k = 5 ∨ k = 6 ∨ k = 7 := by omega
  rcases hk' with rfl | rfl | rfl | rfl | rfl | rfl | rfl
  · repeat (first|refine zA rfl ?_|refine zB rfl rfl rfl ?_|refine zD rfl ?_|refine zE rfl ?_|refine zF rfl ?_|refine zG rfl ?_|refine zQ ?_|refine zR ?_|refine zS ?_|refine zU rfl ?_|refine zX rfl fun bl=>?_|refine yB ?_|refine yC ?_)
    refine rg_caseG rfl rfl (fun g8 => ?_) (fun g8 => ?_)
    · have g8 : kind ≠ 8 := by simpa using g8
      repeat (first|refine zA rfl ?_|refine zB rfl rfl rfl ?_|refine zD rfl ?_|refine zF rfl ?_)
      refine rg_caseG rfl rfl (fun g => ?_) (fun g => ?_)
      · repeat (first|refine zA rfl ?_|refine zG rfl ?_|refine zK rfl rfl ?_|refine zL rfl rfl rfl rfl (by decide) trivial rfl ?_|refine zQ ?_)
        exact ex_rete ret Try.func8 rfl (Ent.drop (Ent.refl _)) ⟨_, rfl, fun _ => g8, Ent.refl _⟩
      · skip
        repeat (first|refine zA rfl ?_|refine zB rfl rfl rfl ?_|refine zK rfl rfl ?_)
        refine rg_caseG rfl rfl (fun g => ?_) (fun g => ?_)
        · repeat (first|refine zG rfl ?_|refine zK rfl rfl ?_|refine zL rfl rfl rfl rfl (by decide) trivial rfl ?_|refine zQ ?_)
          exact ex_rete ret Try.func8 rfl (Ent.drop (Ent.refl _)) ⟨_, rfl, fun _ => g8, Ent.refl _⟩
        · skip
          repeat (first|refine zA rfl ?_|refine zB rfl rfl rfl ?_|refine zG rfl ?_|refine zK rfl rfl ?_|refine zQ ?_)
          exact ex_rete ret Try.func8 rfl (Ent.drop (Ent.refl _)) ⟨_, rfl, fun _ => g8, Ent.refl _⟩
    · repeat (first|refine zG rfl ?_|refine zK rfl rfl ?_|refine zL rfl rfl rfl rfl (by decide) trivial rfl ?_|refine zM rfl rfl rfl rfl (by decide) trivial rfl ?_|refine zQ ?_)
      exact ex_rete ret Try.func8 rfl (Ent.drop (Ent.refl _)) ⟨false, rfl, (fun h => by cases h), Ent.refl _⟩
  · repeat (first|refine zA rfl ?_|refine zB rfl rfl rfl ?_|refine zD rfl ?_|refine zE rfl ?_|refine zF rfl ?_|refine zG rfl ?_|refine zQ ?_|refine zR ?_|refine zS ?_|refine zU rfl ?_|refine zV rfl ?_|refine zX rfl fun bl=>?_|refine yB ?_|refine yC ?_)
    refine rg_caseG rfl rfl (fun g8 => ?_) (fun g8 => ?_)
    · have g8 : kind ≠ 8 := by simpa using g8
      repeat (first|refine zA rfl ?_|refine zB rfl rfl rfl ?_|refine zD rfl ?_|refine zF rfl ?_)
      refine rg_caseG rfl rfl (fun g => ?_) (fun g => ?_)
      · repeat (first|refine zA rfl ?_|refine zG rfl ?_|refine zK rfl rfl ?_|refine zL rfl rfl rfl rfl (by decide) trivial rfl ?_|refine zQ ?_)
        exact ex_rete ret Try.func8 rfl (Ent.drop (Ent.refl _)) ⟨_, rfl, fun _ => g8, Ent.refl _⟩
      · skip
        repeat (first|refine zA rfl ?_|refine zB rfl rfl rfl ?_|refine zK rfl rfl ?_)
        refine rg_caseG rfl rfl (fun g => ?_) (fun g => ?_)
        · repeat (first|refine zA rfl ?_|refine zG rfl ?_|refine zK rfl rfl ?_|refine zL rfl rfl rfl rfl (by decide) trivial rfl ?_|refine zQ ?_)
          exact ex_rete ret Try.func8 rfl (Ent.drop (Ent.refl _)) ⟨_, rfl, fun _ => g8, Ent.refl _⟩
        · skip
          repeat (first|refine zA rfl ?_|refine zB rfl rfl rfl ?_|refine zK rfl rfl ?_)
          refine rg_caseG rfl rfl (fun g => ?_) (fun g => ?_)
          · repeat (first|refine zA rfl ?_|refine zG rfl ?_|refine zK rfl rfl ?_|refine zL rfl rfl rfl rfl (by decide) trivial rfl ?_|refine zQ ?_)
            exact ex_rete ret Try.func8 rfl (Ent.drop (Ent.refl _)) ⟨_, rfl, fun _ => g8, Ent.refl _⟩
          · skip
            repeat (first|refine zA rfl ?_|refine zB rfl rfl rfl ?_|refine zK rfl rfl ?_)
            refine rg_caseG rfl rfl (fun g => ?_) (fun g => ?_)
            · repeat (first|refine zA rfl ?_|refine zG rfl ?_|refine zK rfl rfl ?_|refine zL rfl rfl rfl rfl (by decide) trivial rfl ?_|refine zQ ?_)
              exact ex_rete ret Try.func8 rfl (Ent.drop (Ent.refl _)) ⟨_, rfl, fun _ => g8, Ent.refl _⟩
            · skip
              repeat (first|refine zA rfl ?_|refine zB rfl rfl rfl ?_|refine zK rfl rfl ?_)
              refine rg_caseG rfl rfl (fun g => ?_) (fun g => ?_)
              · repeat (first|refine zG rfl ?_|refine zK rfl rfl ?_|refine zL rfl rfl rfl rfl (by decide) trivial rfl ?_|refine zQ ?_)
                exact ex_rete ret Try.func8 rfl (Ent.drop (Ent.refl _)) ⟨_, rfl, fun _ => g8, Ent.refl _⟩
              · skip
                repeat (first|refine zA rfl ?_|refine zB rfl rfl rfl ?_|refine zG rfl ?_|refine zK rfl rfl ?_|refine zQ ?_)
                exact ex_rete ret Try.func8 rfl (Ent.drop (Ent.refl _)) ⟨_, rfl, fun _ => g8, Ent.refl _⟩
    · repeat (first|refine zG rfl ?_|refine zK rfl rfl ?_|refine zL rfl rfl rfl rfl (by decide) trivial rfl ?_|refine zM rfl rfl rfl rfl (by decide) trivial rfl ?_|refine zQ ?_)
      exact ex_rete ret Try.func8 rfl (Ent.drop (Ent.refl _)) ⟨false, rfl, (fun h => by cases h), Ent.refl _⟩
  · repeat (first|refine zA rfl ?_|refine zB rfl rfl rfl ?_|refine zD rfl ?_|refine zE rfl ?_|refine zF rfl ?_|refine zG rfl ?_|refine zQ ?_|refine zR ?_|refine zS ?_|refine zU rfl ?_|refine zV rfl ?_|refine zX rfl fun bl=>?_|refine yB ?_|refine yC ?_)
    exact ex_rete ret Try.func8 rfl (Ent.drop (Ent.refl _)) ⟨_, rfl, (fun h => by simpa using h), Ent.refl _⟩
  · repeat (first|refine zA rfl ?_|refine zB rfl rfl rfl ?_|refine zD rfl ?_|refine zE rfl ?_|refine zF rfl ?_|refine zG rfl ?_|refine zQ ?_|refine zR ?_|refine zS ?_|refine zU rfl ?_|refine zV rfl ?_|refine zX rfl fun bl=>?_|refine yB ?_|refine yC ?_)
    refine rg_caseG rfl rfl (fun g8 => ?_) (fun g8 => ?_)
    · have g8 : kind ≠ 8 := by simpa using g8
      repeat (first|refine zA rfl ?_|refine zB rfl rfl rfl ?_|refine zD rfl ?_|refine zF rfl ?_)
      refine rg_caseG rfl rfl (fun g => ?_) (fun g => ?_)
      · repeat (first|refine zA rfl ?_|refine zG rfl ?_|refine zK rfl rfl ?_|refine zL rfl rfl rfl rfl (by decide) trivial rfl ?_|refine zQ ?_)
        exact ex_rete ret Try.func8 rfl (Ent.drop (Ent.refl _)) ⟨_, rfl, fun _ => g8, Ent.refl _⟩
      · skip
        repeat (first|refine zA rfl ?_|refine zB rfl rfl rfl ?_|refine zK rfl rfl ?_)
        refine rg_caseG rfl rfl (fun g => ?_) (fun g => ?_)
        · repeat (first|refine zG rfl ?_|refine zK rfl rfl ?_|refine zL rfl rfl rfl rfl (by decide) trivial rfl ?_|refine zQ ?_)
          exact ex_rete ret Try.func8 rfl (Ent.drop (Ent.refl _)) ⟨_, rfl, fun _ => g8, Ent.refl _⟩
        · skip
          repeat (first|refine zA rfl ?_|refine zB rfl rfl rfl ?_|refine zG rfl ?_|refine zK rfl rfl ?_|refine zQ ?_)
          exact ex_rete ret Try.func8 rfl (Ent.drop (Ent.refl _)) ⟨_, rfl, fun _ => g8, Ent.refl _⟩
    · repeat (first|refine zG rfl ?_|refine zK rfl rfl ?_|refine zL rfl rfl rfl rfl (by decide) trivial rfl ?_|refine zM rfl rfl rfl rfl (by decide) trivial rfl ?_|refine zQ ?_)
      exact ex_rete ret Try.func8 rfl (Ent.drop (Ent.refl _)) ⟨false, rfl, (fun h => by cases h), Ent.refl _⟩
  · repeat (first|refine zA rfl ?_|refine zB rfl rfl rfl ?_|refine zD rfl ?_|refine zE rfl ?_|refine zF rfl ?_|refine zG rfl ?_|refine zQ ?_|refine zR ?_|refine zS ?_|refine zU rfl ?_|refine zV rfl ?_|refine zX rfl fun bl=>?_|refine yC ?_)
    refine rg_caseG rfl rfl (fun g8 => ?_) (fun g8 => ?_)
    · have g8 : kind ≠ 8 := by simpa using g8
      repeat (first|refine zA rfl ?_|refine zB rfl rfl rfl ?_|refine zD rfl ?_|refine zF rfl ?_)
      refine rg_caseG rfl rfl (fun g => ?_) (fun g => ?_)
      · repeat (first|refine zA rfl ?_|refine zG rfl ?_|refine zK rfl rfl ?_|refine zL rfl rfl rfl rfl (by decide) trivial rfl ?_|refine zQ ?_)
        exact ex_rete ret Try.func8 rfl (Ent.drop (Ent.refl _)) ⟨_, rfl, fun _ => g8, Ent.refl _⟩
      · skip
        repeat (first|refine zA rfl ?_|refine zB rfl rfl rfl ?_|refine zK rfl rfl ?_)
        refine rg_caseG rfl rfl (fun g => ?_) (fun g => ?_)
        · repeat (first|refine zA rfl ?_|refine zG rfl ?_|refine zK rfl rfl ?_|refine zL rfl rfl rfl rfl (by decide) trivial rfl ?_|refine zQ ?_)
          exact ex_rete ret Try.func8 rfl (Ent.drop (Ent.refl _)) ⟨_, rfl, fun _ => g8, Ent.refl _⟩
        · skip
          repeat (first|refine zA rfl ?_|refine zB rfl rfl rfl ?_|refine zK rfl rfl ?_)
          refine rg_caseG rfl rfl (fun g => ?_) (fun g => ?_)
          · repeat (first|refine zA rfl ?_|refine zG rfl ?_|refine zK rfl rfl ?_|refine zL rfl rfl rfl rfl (by decide) trivial rfl ?_|refine zQ ?_)
            exact ex_rete ret Try.func8 rfl (Ent.drop (Ent.refl _)) ⟨_, rfl, fun _ => g8, Ent.refl _⟩
          · skip
            repeat (first|refine zA rfl ?_|refine zB rfl rfl rfl ?_|refine zK rfl rfl ?_)
            refine rg_caseG rfl rfl (fun g => ?_) (fun g => ?_)
            · repeat (first|refine zA rfl ?_|refine zG rfl ?_|refine zK rfl rfl ?_|refine zL rfl rfl rfl rfl (by decide) trivial rfl ?_|refine zQ ?_)
              exact ex_rete ret Try.func8 rfl (Ent.drop (Ent.refl _)) ⟨_, rfl, fun _ => g8, Ent.refl _⟩
            · skip
              repeat (first|refine zA rfl ?_|refine zB rfl rfl rfl ?_|refine zK rfl rfl ?_)
              refine rg_caseG rfl rfl (fun g => ?_) (fun g => ?_)
              · repeat (first|refine zG rfl ?_|refine zK rfl rfl ?_|refine zL rfl rfl rfl rfl (by decide) trivial rfl ?_|refine zQ ?_)
                exact ex_rete ret Try.func8 rfl (Ent.drop (Ent.refl _)) ⟨_, rfl, fun _ => g8, Ent.refl _⟩
              · skip
                repeat (first|refine zA rfl ?_|refine zB rfl rfl rfl ?_|refine zG rfl ?_|refine zK rfl rfl ?_|refine zQ ?_)
                exact ex_rete ret Try.func8 rfl (Ent.drop (Ent.refl _)) ⟨_, rfl, fun _ => g8, Ent.refl _⟩
    · repeat (first|refine zG rfl ?_|refine zK rfl rfl ?_|refine zL rfl rfl rfl rfl (by decide) trivial rfl ?_|refine zM rfl rfl rfl rfl (by decide) trivial rfl ?_|refine zQ ?_)
      exact ex_rete ret Try.func8 rfl (Ent.drop (Ent.refl _)) ⟨false, rfl, (fun h => by cases h), Ent.refl _⟩
  · repeat (first|refine zA rfl ?_|refine zB rfl rfl rfl ?_|refine zD rfl ?_|refine zE rfl ?_|refine zF rfl ?_|refine zG rfl ?_|refine zQ ?_|refine zR ?_|refine zS ?_|refine zU rfl ?_|refine zV rfl ?_|refine zX rfl fun bl=>?_|refine yC ?_)
    refine rg_caseG rfl rfl (fun g8 => ?_) (fun g8 => ?_)
    · have g8 : kind ≠ 8 := by simpa using g8
      repeat (first|refine zA rfl ?_|refine zB rfl rfl rfl ?_|refine zD rfl ?_|refine zF rfl ?_)
      refine rg_caseG rfl rfl (fun g => ?_) (fun g => ?_)
      · repeat (first|refine zA rfl ?_|refine zG rfl ?_|refine zK rfl rfl ?_|refine zL rfl rfl rfl rfl (by decide) trivial rfl ?_|refine zQ ?_)
        exact ex_rete ret Try.func8 rfl (Ent.drop (Ent.refl _)) ⟨_, rfl, fun _ => g8, Ent.refl _⟩
      · skip
        repeat (first|refine zA rfl ?_|refine zB rfl rfl rfl ?_|refine zK rfl rfl ?_)
        refine rg_caseG rfl rfl (fun g => ?_) (fun g => ?_)
        · repeat (first|refine zG rfl ?_|refine zK rfl rfl ?_|refine zL rfl rfl rfl rfl (by decide) trivial rfl ?_|refine zQ ?_)
          exact ex_rete ret Try.func8 rfl (Ent.drop (Ent.refl _)) ⟨_, rfl, fun _ => g8, Ent.refl _⟩
        · skip
          repeat (first|refine zA rfl ?_|refine zB rfl rfl rfl ?_|refine zG rfl ?_|refine zK rfl rfl ?_|refine zQ ?_)
          exact ex_rete ret Try.func8 rfl (Ent.drop (Ent.refl _)) ⟨_, rfl, fun _ => g8, Ent.refl _⟩
    · repeat (first|refine zG rfl ?_|refine zK rfl rfl ?_|refine zL rfl rfl rfl rfl (by decide) trivial rfl ?_|refine zM rfl rfl rfl rfl (by decide) trivial rfl ?_|refine zQ ?_)
      exact ex_rete ret Try.func8 rfl (Ent.drop (Ent.refl _)) ⟨false, rfl, (fun h => by cases h), Ent.refl _⟩
  · repeat (first|refine zA rfl ?_|refine zB rfl rfl rfl ?_|refine zD rfl ?_|refine zE rfl ?_|refine zF rfl ?_|refine zG rfl ?_|refine zQ ?_|refine zR ?_|refine zS ?_|refine zU rfl ?_|refine zV rfl ?_|refine zX rfl fun bl=>?_|refine yC ?_)
    exact ex_rete ret Try.func8 rfl (Ent.drop (Ent.refl _)) ⟨_, rfl, (fun h => by simpa using h), Ent.refl _⟩

set_option maxHeartbeats 4000000 in
theorem playedAll_ok (o : Opn) (k : Int) (Γ : List Ch) (hk : k = 0 ∨ k = 8) :
    CallsX Try.prog 8 #[opV o, .int .i64 k] Γ (fun v Δ => v = .bool true ∧ Ent Δ Γ) := by
  obtain ⟨kind, oa, oc, os, oL, oM, on', od⟩ := o
  dsimp only [opV, opC]
  refine calls_of_body (args := [.agg ⟨[.int .i64 kind, .int .i64 oa, .int .i64 oc, .int .i64 os.kind, .int .u64 os.n, .int .u64 os.p.seq, .int .i64 os.p.frm, .int .i64 os.p.to, .int .i64 os.p.coin, .int .u64 os.p.amount, .int .u64 os.p.height, .int .u64 os.p.time, oL, oM, .int .u64 on', .int .i64 od]⟩, .int .i64 k]) Try.func8 rfl Try.ntmps8 fun X cs ret => ?_
  rcases hk with rfl | rfl
  · repeat (first|refine zA rfl ?_|refine zB rfl rfl rfl ?_|refine zD rfl ?_|refine zE rfl ?_|refine zF rfl ?_|refine zG rfl ?_|refine zQ ?_|refine zR ?_|refine zS ?_|refine zV rfl ?_|refine zX rfl fun bl=>?_|refine yB ?_|refine yC ?_|refine yD ?_)
    exact ex_rete ret Try.func8 rfl (Ent.drop (Ent.refl _)) ⟨rfl, Ent.refl _⟩
  · repeat (first|refine zA rfl ?_|refine zB rfl rfl rfl ?_|refine zD rfl ?_|refine zE rfl ?_|refine zF rfl ?_|refine zG rfl ?_|refine zQ ?_|refine zR ?_|refine zS ?_|refine zV rfl ?_|refine zX rfl fun bl=>?_|refine yB ?_|refine yC ?_|refine yD ?_)
    exact ex_rete ret Try.func8 rfl (Ent.drop (Ent.refl _)) ⟨rfl, Ent.refl _⟩

end Go.Br

namespace Go.Br
open Go Go.Lx Go.Proofs
open Go.Lx renaming rg_move → zA, rg_int → zB, rg_nilCheck → zC, rg_fieldAddr0 → zD, rg_fieldAddr → zE, rg_load → zF, rg_assign → zG, rg_loadAgg → zH, rg_extract → zI, rg_not → zJ, rg_pick → zK, rg_off → zL, rg_offU → zM, rg_store → zN, rg_storeAgg → zO, rg_convInt → zP, rg_done → zQ, ex_seq → zR, rg_start_s → zS, rg_start_d → zT, ex_cond_true → zU, ex_cond_false → zV, rg_alloc → zW, rg_boxAgg → zX, rg_build → zY, rg_lenSl → zZ, rg_lenMap → yA, ex_skip → yB, ex_block → yC, ex_inBlock → yD, ex_exit → yE, rg_caseG → yZ
set_option maxRecDepth 100000

def lenV : Value → Nat
  | .slice _ n _ => n
  | _ => 0

def smallGo : List Opn → Nat → Bool
  | [], n => decide (n ≤ 65536)
  | o :: l, n => if 65536 < n + (lenV o.L + lenV o.M) then false else smallGo l (n + (lenV o.L + lenV o.M))

def opsN (ops : List Opn) : Nat := ops.foldr (fun o n => lenV o.L + lenV o.M + n) 0

theorem smallGo_true : ∀ (l : List Opn) (n : Nat), smallGo l n = true → n + opsN l ≤ 65536
  | [], n, h => by simpa [smallGo, opsN] using h
  | o :: l, n, h => by
    simp only [smallGo] at h
    split at h
    · cases h
    · have := smallGo_true l _ h
      simp only [opsN, List.foldr_cons] at this ⊢; omega

/-- A script in memory, to be read alone. -/
structure ScAt (l : List Value) (off : Nat) (ops : List Opn) : Prop where
  at_ : ∀ i (h : i < ops.length), SliceL l (off + i * 16) 16 (opC ops[i])
  L : ∀ o ∈ ops, ∃ a n c, o.L = .slice a n c ∧ n < 70368744177664
  M : ∀ o ∈ ops, ∃ a n c, o.M = .slice a n c ∧ n < 70368744177664
  ok : ∀ o ∈ ops, OpOk o

theorem small_ok (b off cap : Nat) (l : List Value) (T : TypeId) (fz : Nat × Nat) (ops : List Opn) (Γ : List Ch) (sc : ScAt l off ops) (hl : ops.length < 70368744177664) :
    CallsX Try.prog 6 #[.slice (some ⟨b, off, none⟩) ops.length cap] (.pt b false (.cells ⟨l⟩ T fz) :: Γ)
      (fun v Δ => v = .bool (smallGo ops ops.length) ∧ Ent Δ (.pt b false (.cells ⟨l⟩ T fz) :: Γ)) := by
  refine calls_of_body (args := [.slice (some ⟨b, off, none⟩) ops.length cap]) Try.func6 rfl Try.ntmps6 fun X cs ret => ?_
  repeat (first|refine zA rfl ?_|refine zG rfl ?_|refine zQ ?_|refine zR ?_|refine zS ?_|refine zZ rfl ?_|refine yC ?_)
  refine ex_loop ?_
  refine ex_ind (ι := Nat × Nat) (fun i => ops.length + 1 - i.1) (fun i => [(10, .int .i64 i.1), (9, .int .i64 ops.length), (8, .slice (some ⟨b, off, none⟩) ops.length cap), (3, .int .i64 i.2)]) (fun _ => .pt b false (.cells ⟨l⟩ T fz) :: Γ)
    (fun i => i.1 ≤ ops.length ∧ i.2 < 70368744177664 ∧ smallGo ops ops.length = smallGo (ops.drop i.1) i.2) (0, ops.length) ⟨Nat.zero_le _, hl, rfl⟩ ⟨rfl, rfl, rfl, rfl, trivial⟩ rfl (fun (i, acc) hi IH => ?_)
  obtain ⟨hi1, hi2, hi3⟩ := hi
  dsimp only at hi1 hi2 hi3 ⊢
  repeat (first|refine zB rfl rfl rfl ?_|refine zQ ?_|refine zR ?_|refine zS ?_)
  refine ex_cond_split rfl (fun h1 => ?_) (fun h1 => ?_)
  · have hlt : i < ops.length := by have := of_decide_eq_true h1; omega
    repeat (first|refine zR ?_|refine zS ?_|refine yB ?_|refine yC ?_)
    refine rg_indexSl rfl rfl ⟨by omega, by omega⟩ ?_
    rw [Int.toNat_natCast]
    haveI := sc.at_ i hlt
    rw [List.drop_eq_getElem_cons hlt] at hi3
    obtain ⟨a1, n1, c1, e1, b1⟩ := sc.L _ (List.getElem_mem hlt)
    obtain ⟨a2, n2, c2, e2, b2⟩ := sc.M _ (List.getElem_mem hlt)
    generalize ops[i] = o at *
    obtain ⟨kind, oa, oc, os, oL, oM, on', od⟩ := o
    dsimp only at e1 e2
    subst e1; subst e2
    replace hi3 : smallGo ops ops.length = if 65536 < acc + (n1 + n2) then false else smallGo (ops.drop (i + 1)) (acc + (n1 + n2)) := hi3
    refine rg_loadAgg rfl ?_
    repeat (first|refine zA rfl ?_|refine zB rfl rfl rfl ?_|refine zE rfl ?_|refine zF rfl ?_|refine zG rfl ?_|refine zO rfl rfl ?_|refine zQ ?_|refine zR ?_|refine zS ?_|refine zW fun bl=>?_|refine zZ rfl ?_)
    rw [rwrap (x := (n1 : Int) + n2) (by omega), rwrap (x := (acc : Int) + ((n1 : Int) + n2)) (by omega)]
    refine ex_cond_split rfl (fun h2 => ?_) (fun h2 => ?_)
    · have h2 := of_decide_eq_true h2
      rw [if_pos (by omega)] at hi3
      repeat (first|refine zG rfl ?_|refine zQ ?_|refine zR ?_|refine zS ?_)
      exact ex_rete ret Try.func6 rfl (Ent.drop (Ent.refl _)) ⟨by rw [hi3]; rfl, Ent.refl _⟩
    · have h2 := of_decide_eq_false h2
      rw [if_neg (by omega)] at hi3
      repeat (first|refine zA rfl ?_|refine zB rfl rfl rfl ?_|refine zQ ?_|refine zS ?_|refine yB ?_|refine yD ?_)
      refine ex_inLoop ?_
      rw [rwrap (x := (i : Int) + 1) (by omega)]
      refine Ex.drop ?_
      rw [show (acc : Int) + ((n1 : Int) + n2) = ((acc + (n1 + n2) : Nat) : Int) by omega]
      exact Ex.sup (IH (i + 1, acc + (n1 + n2)) ⟨hlt, by dsimp only; omega, hi3⟩ (by dsimp only; omega)) ⟨rfl, rfl, rfl, rfl, trivial⟩
  · have hge : i = ops.length := by have := of_decide_eq_false h1; omega
    subst hge
    rw [List.drop_length] at hi3
    repeat (first|refine zA rfl ?_|refine zB rfl rfl rfl ?_|refine zG rfl ?_|refine zQ ?_|refine zR ?_|refine zS ?_|refine yE rfl ?_)
    refine ex_rete ret Try.func6 rfl (Ent.refl _) ⟨?_, Ent.refl _⟩
    rw [hi3]
    simp only [packV, smallGo]
    congr 1
    rw [Bool.eq_iff_iff]; simp; omega

theorem smallNil_ok (a : Option Addr) (cap : Nat) (Γ : List Ch) : CallsX Try.prog 6 #[.slice a 0 cap] Γ (fun v Δ => v = .bool true ∧ Ent Δ Γ) := by
  refine calls_of_body (args := [.slice a 0 cap]) Try.func6 rfl Try.ntmps6 fun X cs ret => ?_
  repeat (first|refine zA rfl ?_|refine zG rfl ?_|refine zQ ?_|refine zR ?_|refine zS ?_|refine zZ rfl ?_|refine yC ?_)
  refine ex_loop ?_
  repeat (first|refine zA rfl ?_|refine zB rfl rfl rfl ?_|refine zG rfl ?_|refine zQ ?_|refine zR ?_|refine zS ?_|refine zV rfl ?_|refine yE rfl ?_)
  exact ex_rete ret Try.func6 rfl (Ent.refl _) ⟨rfl, Ent.refl _⟩

theorem wd_mono {w B B' : Nat} {Γ : List Ch} (h : B ≤ B') : Ent (.pr (WdAt w B) :: Γ) (.pr (WdAt w B') :: Γ) := Ent.head fun h' ⟨z, ok, st⟩ => ⟨h', .refl h', z, ok.mono h, st⟩

/-- The world at the beginning. -/
theorem wd_new {w : Nat} {Γ : List Ch} : Ent (.pt w true (.cells ⟨[.slice none 0 0, .slice none 0 0, .slice none 0 0, .bool false]⟩ 39 (0, 0)) :: Γ) (.pr (WdAt w 1) :: Γ) := by
  have e0 : ∀ Δ : List Ch, Ent Δ (.pr (Star []) :: Δ) := fun Δ => .star fun h st => ⟨fun _ => none, h, fun _ => .inl ⟨rfl, rfl⟩, trivial, st⟩
  refine Ent.trans (Ent.cons (Ent.trans (e0 Γ) (Ent.trans (e0 _) (Ent.trans (e0 _) (Ent.trans (ent_nil (el := 82) (m := 1)) (Ent.trans (ent_nil (el := 81) (m := 1)) (ent_nil (el := 52) (m := 2)))))))) ?_
  exact EntR.e (wd_fold ⟨[], [], [], .slice none 0 0, .slice none 0 0, .slice none 0 0⟩ ⟨by simp, by simp, by simp, by simp, by simp, by simp, by simp⟩)

def upK (k : Int) : Prop := 1 ≤ k ∧ k ≤ 7

set_option maxHeartbeats 4000000 in
theorem upTo_ok (k : Int) (b off cap : Nat) (l : List Value) (T : TypeId) (fz : Nat × Nat) (ops : List Opn) (Γ : List Ch) (hk : 1 ≤ k ∧ k ≤ 7) (sc : ScAt l off ops) (hl : ops.length ≤ 65536) :
    CallsX Try.prog 7 #[.slice (some ⟨b, off, none⟩) ops.length cap, .int .i64 k] (.pt b false (.cells ⟨l⟩ T fz) :: Γ)
      (fun v Δ => v = .int .i64 (-1) ∧ Ent Δ (.pt b false (.cells ⟨l⟩ T fz) :: Γ)) := by
  refine calls_of_body (args := [.slice (some ⟨b, off, none⟩) ops.length cap, .int .i64 k]) Try.func7 rfl Try.ntmps7 fun X cs ret => ?_
  have hk0 : ¬ k = 0 := by omega
  have hk8 : ¬ k = 8 := by omega
  repeat (first|refine zA rfl ?_|refine zG rfl ?_|refine zQ ?_|refine zR ?_|refine zS ?_|refine zX rfl fun bl=>?_|refine zY rfl ?_|refine zZ rfl ?_|refine yC ?_)
  refine ex_loop ?_
  refine Ex.ent wd_new ?_
  refine ex_ind (ι := Nat) (fun i => ops.length + 1 - i) (fun i => [(12, .int .i64 i), (11, .int .i64 ops.length), (10, .slice (some ⟨b, off, none⟩) ops.length cap), (5, ptrV bl), (1, .int .i64 k)]) (fun i => .pr (WdAt bl (i + 1)) :: .pt b false (.cells ⟨l⟩ T fz) :: Γ)
    (fun i => i ≤ ops.length) 0 (Nat.zero_le _) ⟨rfl, rfl, rfl, rfl, rfl, trivial⟩ rfl (fun i hi IH => ?_)
  repeat (first|refine zB rfl rfl rfl ?_|refine zQ ?_|refine zR ?_|refine zS ?_)
  refine ex_cond_split rfl (fun h1 => ?_) (fun h1 => ?_)
  · have hlt : i < ops.length := by have := of_decide_eq_true h1; omega
    repeat (first|refine zA rfl ?_|refine zR ?_|refine zS ?_|refine yB ?_|refine yC ?_)
    refine rg_indexSl rfl rfl ⟨by omega, by omega⟩ ?_
    rw [Int.toNat_natCast]
    haveI := sc.at_ i hlt
    have hoo := sc.ok _ (List.getElem_mem hlt)
    obtain ⟨a1, n1, c1, e1, b1⟩ := sc.L _ (List.getElem_mem hlt)
    obtain ⟨a2, n2, c2, e2, b2⟩ := sc.M _ (List.getElem_mem hlt)
    generalize ops[i] = o at *
    obtain ⟨kind, oa, oc, os, oL, oM, on', od⟩ := o
    dsimp only at e1 e2
    subst e1; subst e2
    refine rg_loadAgg rfl ?_
    repeat (first|refine zA rfl ?_|refine zG rfl ?_|refine zH rfl ?_|refine zO rfl rfl ?_|refine zQ ?_|refine zR ?_|refine zS ?_|refine zW fun bl=>?_)
    refine rg_call rfl (played_ok ⟨kind, oa, oc, os, .slice a1 n1 c1, .slice a2 n2 c2, on', od⟩ k _ hk) ?_
    rintro _ D ⟨p, rfl, hp, hE⟩
    refine ⟨.inl rfl, Rg.ent hE ?_⟩
    rcases p with _ | _
    · repeat (first|refine zA rfl ?_|refine zB rfl rfl rfl ?_|refine zJ rfl ?_|refine zQ ?_|refine zS ?_|refine zU rfl ?_|refine yE rfl ?_)
      refine ex_inLoop ?_
      rw [rwrap (x := (i : Int) + 1) (by omega)]
      refine Ex.drop (Ex.ent (wd_mono (Nat.le_succ (i + 1))) ?_)
      exact Ex.sup (IH (i + 1) hlt (by omega)) ⟨rfl, rfl, rfl, rfl, rfl, trivial⟩
    · repeat (first|refine zA rfl ?_|refine zH rfl ?_|refine zJ rfl ?_|refine zQ ?_|refine zR ?_|refine zS ?_|refine zV rfl ?_|refine yB ?_)
      (refine Rg.front 2 ?_; refine Rg.front 1 ?_; refine Rg.front 2 ?_)
      refine rg_callE rfl (step_ok _ ⟨kind, oa, oc, os, .slice a1 n1 c1, .slice a2 n2 c2, on', od⟩ (i + 1) _ (by omega) hoo (hp rfl)) ?_
      refine ⟨.inl rfl, ?_⟩
      repeat (first|refine zA rfl ?_|refine zB rfl rfl rfl ?_|refine zJ rfl ?_|refine zK rfl rfl ?_|refine zL rfl rfl rfl rfl (by decide) trivial rfl ?_|refine zM rfl rfl rfl rfl (by decide) trivial rfl ?_|refine zQ ?_|refine zR ?_|refine zS ?_|refine zV rfl ?_|refine yB ?_)
      rw [decide_eq_false hk0]
      repeat (first|refine zA rfl ?_|refine zB rfl rfl rfl ?_|refine zK rfl rfl ?_)
      rw [decide_eq_false hk8]
      repeat (first|refine zA rfl ?_|refine zB rfl rfl rfl ?_|refine zK rfl rfl ?_|refine zL rfl rfl rfl rfl (by decide) trivial rfl ?_|refine zQ ?_|refine zS ?_|refine zV rfl ?_|refine yB ?_|refine yD ?_)
      refine ex_inLoop ?_
      rw [rwrap (x := (i : Int) + 1) (by omega)]
      (refine Ex.front 1 ?_)
      refine Ex.drop ?_
      exact Ex.sup (IH (i + 1) hlt (by omega)) ⟨rfl, rfl, rfl, rfl, rfl, trivial⟩
  · have hge : i = ops.length := by have := of_decide_eq_false h1; omega
    repeat (first|refine zG rfl ?_|refine zQ ?_|refine zR ?_|refine zS ?_|refine yE rfl ?_)
    exact ex_rete ret Try.func7 rfl (Ent.drop (Ent.refl _)) ⟨rfl, Ent.refl _⟩

theorem upToNil_ok (a : Option Addr) (cap : Nat) (k : Int) (Γ : List Ch) :
    CallsX Try.prog 7 #[.slice a 0 cap, .int .i64 k] Γ (fun v Δ => v = .int .i64 (-1) ∧ Ent Δ Γ) := by
  refine calls_of_body (args := [.slice a 0 cap, .int .i64 k]) Try.func7 rfl Try.ntmps7 fun X cs ret => ?_
  repeat (first|refine zA rfl ?_|refine zG rfl ?_|refine zQ ?_|refine zR ?_|refine zS ?_|refine zX rfl fun bl=>?_|refine zY rfl ?_|refine zZ rfl ?_|refine yC ?_)
  refine ex_loop ?_
  repeat (first|refine zB rfl rfl rfl ?_|refine zG rfl ?_|refine zQ ?_|refine zR ?_|refine zS ?_|refine zV rfl ?_|refine yE rfl ?_)
  exact ex_rete ret Try.func7 rfl (Ent.drop (Ent.refl _)) ⟨rfl, Ent.refl _⟩

end Go.Br

namespace Go.Br
open Go Go.Lx Go.Proofs Go.ChangeShapes Go.WideShapes Go.Deep
set_option maxRecDepth 100000

section
variable {H : Type} {enc : TypeId × Value → H} {W : World} {base : Nat} {sp : Nat → Bool} {held : Bool}

theorem c_int : Try.prog.cellsOf 3 = 1 := by kernel_rfl
theorem c_u64 : Try.prog.cellsOf 26 = 1 := by kernel_rfl
theorem c_kind : Try.prog.cellsOf 25 = 1 := by kernel_rfl
theorem c_pk : Try.prog.cellsOf 28 = 7 := by kernel_rfl
theorem c_step : Try.prog.cellsOf 30 = 9 := by kernel_rfl
theorem c_steps : Try.prog.cellsOf 31 = 1 := by kernel_rfl
theorem c_op : Try.prog.cellsOf 33 = 16 := by kernel_rfl
theorem b_op : Try.prog.bytesOf 33 = 160 := by kernel_rfl
theorem b_step : Try.prog.bytesOf 30 = 72 := by kernel_rfl

theorem wf_i64 {n : Int} (h : (Lit.int .i64 n).wf = true) : -9223372036854775808 ≤ n ∧ n < 9223372036854775808 := by
  simp [Lit.wf, IntKind.min, IntKind.max, IntKind.bits, IntKind.signed] at h
  omega
theorem wf_u64 {n : Int} (h : (Lit.int .u64 n).wf = true) : 0 ≤ n ∧ n < 18446744073709551616 := by
  simp [Lit.wf, IntKind.min, IntKind.max, IntKind.bits, IntKind.signed] at h
  omega

theorem get_lt {α : Type} {l : List α} {i : Nat} (h : i < l.length) : ∃ y, l[i]? = some y := ⟨_, List.getElem?_eq_getElem h⟩

theorem dec_int {n : Nat} {c : Value} {y : DataW H × List MemPlace} (h : DataW.trod enc Try.prog W base sp held n 3 [c] = some y) : ∃ k, c = .int .i64 k ∧ -9223372036854775808 ≤ k ∧ k < 9223372036854775808 := by
  obtain ⟨k, e, _, w⟩ := DataW.trod_int Try.underlying3 h
  cases e
  exact ⟨k, rfl, wf_i64 w⟩
theorem dec_kind {n : Nat} {c : Value} {y : DataW H × List MemPlace} (h : DataW.trod enc Try.prog W base sp held n 25 [c] = some y) : ∃ k, c = .int .i64 k := by
  obtain ⟨k, e, _, w⟩ := DataW.trod_int Try.underlying25 h
  cases e
  exact ⟨k, rfl⟩
theorem dec_u64 {n : Nat} {c : Value} {y : DataW H × List MemPlace} (h : DataW.trod enc Try.prog W base sp held n 26 [c] = some y) : ∃ k, c = .int .u64 k ∧ 0 ≤ k ∧ k < 18446744073709551616 := by
  obtain ⟨k, e, _, w⟩ := DataW.trod_int Try.underlying26 h
  cases e
  exact ⟨k, rfl, wf_u64 w⟩

theorem fld {fs : Array Field} {xs : List (DataW H × List MemPlace)} {cs : List Value} {m : Nat} (hg : ∀ (i : Nat) (f : Field), fs[i]? = some f → DataW.trod enc Try.prog W base sp held m f.type ((cs.drop f.offset).take (Try.prog.cellsOf f.type)) = xs[i]?) (hxl : xs.length = fs.size)
    (i : Nat) {t off k : Nat} (hf : ∃ f, fs[i]? = some f ∧ f.type = t ∧ f.offset = off) (hc : Try.prog.cellsOf t = k) : ∃ y, xs[i]? = some y ∧ DataW.trod enc Try.prog W base sp held m t ((cs.drop off).take k) = some y := by
  obtain ⟨f, h1, rfl, rfl⟩ := hf
  subst hc
  have hl : i < fs.size := (Array.getElem?_eq_some_iff.1 h1).1
  obtain ⟨y, hy⟩ := get_lt (l := xs) (i := i) (by omega)
  exact ⟨y, hy, (hg i f h1).trans hy⟩

theorem dec_pk {n : Nat} {cs : List Value} {y : DataW H × List MemPlace} (h : DataW.trod enc Try.prog W base sp held n 28 cs = some y) : ∃ p : Pk, cs = pkC p := by
  obtain ⟨xs, m, _, _, hlen, hxl, hg⟩ := DataW.trod_struct Try.underlying28 h
  rw [c_pk] at hlen
  match cs, hlen with
  | [c0, c1, c2, c3, c4, c5, c6], _ =>
    obtain ⟨y0, _, h0⟩ := fld hg hxl 0 ⟨_, rfl, rfl, rfl⟩ c_u64
    obtain ⟨y1, _, h1⟩ := fld hg hxl 1 ⟨_, rfl, rfl, rfl⟩ c_int
    obtain ⟨y2, _, h2⟩ := fld hg hxl 2 ⟨_, rfl, rfl, rfl⟩ c_int
    obtain ⟨y3, _, h3⟩ := fld hg hxl 3 ⟨_, rfl, rfl, rfl⟩ c_int
    obtain ⟨y4, _, h4⟩ := fld hg hxl 4 ⟨_, rfl, rfl, rfl⟩ c_u64
    obtain ⟨y5, _, h5⟩ := fld hg hxl 5 ⟨_, rfl, rfl, rfl⟩ c_u64
    obtain ⟨y6, _, h6⟩ := fld hg hxl 6 ⟨_, rfl, rfl, rfl⟩ c_u64
    obtain ⟨k0, rfl, _⟩ := dec_u64 (c := c0) h0
    obtain ⟨k1, rfl, _⟩ := dec_int (c := c1) h1
    obtain ⟨k2, rfl, _⟩ := dec_int (c := c2) h2
    obtain ⟨k3, rfl, _⟩ := dec_int (c := c3) h3
    obtain ⟨k4, rfl, _⟩ := dec_u64 (c := c4) h4
    obtain ⟨k5, rfl, _⟩ := dec_u64 (c := c5) h5
    obtain ⟨k6, rfl, _⟩ := dec_u64 (c := c6) h6
    exact ⟨⟨k0, k1, k2, k3, k4, k5, k6⟩, rfl⟩

theorem dec_step {n : Nat} {cs : List Value} {y : DataW H × List MemPlace} (h : DataW.trod enc Try.prog W base sp held n 30 cs = some y) : ∃ x : Stp, cs = stC x ∧ 0 ≤ x.n ∧ x.n < 18446744073709551616 := by
  obtain ⟨xs, m, _, _, hlen, hxl, hg⟩ := DataW.trod_struct Try.underlying30 h
  rw [c_step] at hlen
  match cs, hlen with
  | [c0, c1, c2, c3, c4, c5, c6, c7, c8], _ =>
    obtain ⟨y0, _, h0⟩ := fld hg hxl 0 ⟨_, rfl, rfl, rfl⟩ c_kind
    obtain ⟨y1, _, h1⟩ := fld hg hxl 1 ⟨_, rfl, rfl, rfl⟩ c_u64
    obtain ⟨y2, _, h2⟩ := fld hg hxl 2 ⟨_, rfl, rfl, rfl⟩ c_pk
    obtain ⟨k0, rfl⟩ := dec_kind (c := c0) h0
    obtain ⟨k1, rfl, hr⟩ := dec_u64 (c := c1) h1
    obtain ⟨p, hp⟩ := dec_pk h2
    refine ⟨⟨k0, k1, p⟩, ?_, hr⟩
    have hp' : [c2, c3, c4, c5, c6, c7, c8] = pkC p := hp
    rw [show [Value.int .i64 k0, .int .u64 k1, c2, c3, c4, c5, c6, c7, c8] = [Value.int .i64 k0, .int .u64 k1] ++ [c2, c3, c4, c5, c6, c7, c8] from rfl, hp']
    rfl

/-- A step of a script; the readings of its lists. -/
theorem dec_op {n : Nat} {cs : List Value} {y : DataW H × List MemPlace} (h : DataW.trod enc Try.prog W base sp held n 33 cs = some y) :
    ∃ (o : Opn) (m : Nat) (yL yM : DataW H × List MemPlace) (ds : List (DataW H)), cs = opC o ∧ OpOk o ∧ y.1 = .agg ds ∧ ds[4]? = some yL.1 ∧ ds[5]? = some yM.1 ∧
      DataW.trod enc Try.prog W base sp held m 31 [o.L] = some yL ∧ DataW.trod enc Try.prog W base sp held m 31 [o.M] = some yM := by
  obtain ⟨xs, m, _, e, hlen, hxl, hg⟩ := DataW.trod_struct Try.underlying33 h
  rw [c_op] at hlen
  match cs, hlen with
  | [c0, c1, c2, c3, c4, c5, c6, c7, c8, c9, c10, c11, c12, c13, c14, c15], _ =>
    obtain ⟨y0, _, h0⟩ := fld hg hxl 0 ⟨_, rfl, rfl, rfl⟩ c_int
    obtain ⟨y1, _, h1⟩ := fld hg hxl 1 ⟨_, rfl, rfl, rfl⟩ c_int
    obtain ⟨y2, _, h2⟩ := fld hg hxl 2 ⟨_, rfl, rfl, rfl⟩ c_int
    obtain ⟨y3, _, h3⟩ := fld hg hxl 3 ⟨_, rfl, rfl, rfl⟩ c_step
    obtain ⟨y4, e4, h4⟩ := fld hg hxl 4 ⟨_, rfl, rfl, rfl⟩ c_steps
    obtain ⟨y5, e5, h5⟩ := fld hg hxl 5 ⟨_, rfl, rfl, rfl⟩ c_steps
    obtain ⟨y6, _, h6⟩ := fld hg hxl 6 ⟨_, rfl, rfl, rfl⟩ c_u64
    obtain ⟨y7, _, h7⟩ := fld hg hxl 7 ⟨_, rfl, rfl, rfl⟩ c_int
    obtain ⟨k0, rfl, _⟩ := dec_int (c := c0) h0
    obtain ⟨k1, rfl, r1⟩ := dec_int (c := c1) h1
    obtain ⟨k2, rfl, _⟩ := dec_int (c := c2) h2
    obtain ⟨x, hx, rx⟩ := dec_step h3
    obtain ⟨k6, rfl, r6⟩ := dec_u64 (c := c14) h6
    obtain ⟨k7, rfl, _⟩ := dec_int (c := c15) h7
    have hx' : [c3, c4, c5, c6, c7, c8, c9, c10, c11] = stC x := hx
    refine ⟨⟨k0, k1, k2, x, c12, c13, k6, k7⟩, m, y4, y5, xs.map (·.1), ?_, ⟨r1, rx, r6⟩, by rw [e], by rw [List.getElem?_map, e4]; rfl, by rw [List.getElem?_map, e5]; rfl, h4, h5⟩
    rw [show [Value.int .i64 k0, .int .i64 k1, .int .i64 k2, c3, c4, c5, c6, c7, c8, c9, c10, c11, c12, c13, .int .u64 k6, .int .i64 k7] = [Value.int .i64 k0, .int .i64 k1, .int .i64 k2] ++ [c3, c4, c5, c6, c7, c8, c9, c10, c11] ++ [c12, c13, .int .u64 k6, .int .i64 k7] from rfl, hx']
    rfl

theorem sliceL_of {l ul : List Value} {p m : Nat} (hm : ul.length = m) (h : ∀ j, j < m → l[p + j]? = ul[j]?) (hpos : 0 < m) : SliceL l p m ul := by
  have hl : p + m ≤ l.length := by
    have h1 := h (m - 1) (by omega)
    rw [List.getElem?_eq_getElem (l := ul) (by omega)] at h1
    have := (List.getElem?_eq_some_iff.1 h1).1
    omega
  refine ⟨l.take p, l.drop (p + m), ?_, by rw [List.length_take]; omega, hm⟩
  have e : (l.drop p).take m = ul := by
    apply List.ext_getElem?
    intro j
    rw [List.getElem?_take, List.getElem?_drop]
    split
    · exact h j (by assumption)
    · rw [List.getElem?_eq_none (by omega)]
  rw [← e, ← List.drop_drop, List.append_assoc, List.take_append_drop, List.take_append_drop]

theorem list_of {α : Type} {Q : Nat → α → Prop} : ∀ n, (∀ i, i < n → ∃ a, Q i a) → ∃ l : List α, l.length = n ∧ ∀ i (h : i < l.length), Q i l[i]
  | 0, _ => ⟨[], rfl, fun i h => by cases h⟩
  | n + 1, h => by
    obtain ⟨l, h1, h2⟩ := list_of n fun i hi => h i (by omega)
    obtain ⟨a, ha⟩ := h n (by omega)
    refine ⟨l ++ [a], by simp [h1], fun i hi => ?_⟩
    rcases Nat.lt_or_ge i l.length with hl | hl
    · rw [List.getElem_append_left hl]; exact h2 i hl
    · have : i = l.length := by rw [List.length_append] at hi; simp at hi; omega
      subst this
      rw [List.getElem_append_right (Nat.le_refl _)]
      simp only [Nat.sub_self, List.getElem_cons_zero]
      rw [h1]; exact ha

theorem cell_heap {a : Addr} {v : Value} (h : W.cell? a = some v) : ∃ l T fz, W.heap[a.block]? = some (.cells ⟨l⟩ T fz) ∧ a.spot = none ∧ l[a.off]? = some v := by
  unfold World.cell? at h
  split at h
  · rename_i c T fz hc
    split at h
    · cases h
    · rename_i hs
      refine ⟨c.toList, T, fz, hc, ?_, by simpa using h⟩
      cases ha : a.spot with
      | none => rfl
      | some x => rw [ha] at hs; simp at hs
  · cases h

/-- The cells of a row in memory, as slices of the block's list. -/
theorem row_cell {b off m i : Nat} {l : List Value} {T : TypeId} {fz : Nat × Nat} {cs : List Value} (hb : W.heap[b]? = some (.cells ⟨l⟩ T fz)) (hm : 0 < m) (h : W.cells? base ((⟨b, off, none⟩ : Addr).add (i * m)) m = some cs) : SliceL l (off + i * m) m cs := by
  obtain ⟨_, hl, hat⟩ := World.cells?_some h
  refine sliceL_of hl (fun j hj => ?_) hm
  have := hat j hj
  rw [← this]
  have e : ((⟨b, off, none⟩ : Addr).add (i * m)).add j = ⟨b, off + i * m + j, none⟩ := by
    rw [Go.Deep.add_add]
    unfold Addr.add
    split
    · rename_i h0; simp [show i * m = 0 by omega, show j = 0 by omega]
    · simp [Nat.add_assoc]
  rw [e]
  simp [World.cell?, hb]

theorem reach_eq : reachBytes = 140737488351232 := rfl

/-- A list of steps inside a script: its shape, and that it isn't beyond all bounds. -/
theorem dec_steps {n : Nat} {v : Value} {y : DataW H × List MemPlace} (h : DataW.trod enc Try.prog W base sp held n 31 [v] = some y) (hsz : ∀ k ∈ DataW.weights Try.prog 31 y.1, k ≤ reachBytes) : ∃ a n c, v = .slice a n c ∧ n < 70368744177664 := by
  rcases open_slice Try.underlying31 h with ⟨e, _⟩ | ⟨a, len, cap, m, k, D, Pl, e, _, _, _, _, hx, _⟩
  · cases e; exact ⟨none, 0, 0, rfl, by decide⟩
  · cases e
    refine ⟨some a, len, cap, rfl, ?_⟩
    have := hsz ((len + (m - len)) * Try.prog.bytesOf 30) (by rw [hx]; simp [DataW.weights, Try.underlying31])
    rw [b_step, reach_eq] at this
    omega

theorem weightsAll_mem {P : Program} {e : TypeId} : ∀ {l : List (DataW H)} {d : DataW H}, d ∈ l → ∀ n ∈ d.weights P e, n ∈ DataW.weightsAll P e l
  | d' :: r, d, hd, n, hn => by
    simp only [DataW.weightsAll, List.mem_append]
    rcases List.mem_cons.1 hd with rfl | h
    · exact Or.inl hn
    · exact Or.inr (weightsAll_mem h n hn)

/-- A script: its memory. -/
theorem open_script {n : Nat} {v : Value} {y : DataW H × List MemPlace} (h : DataW.trod enc Try.prog W base sp held n 22 [v] = some y) (hsz : ∀ k ∈ DataW.weights Try.prog 22 y.1, k ≤ reachBytes) :
    (∃ a cap, v = .slice a 0 cap) ∨ ∃ b off cap l T fz ops, v = .slice (some ⟨b, off, none⟩) ops.length cap ∧ W.heap[b]? = some (.cells ⟨l⟩ T fz) ∧ ScAt l off ops ∧ ops.length < 70368744177664 := by
  rcases open_slice Try.underlying22 h with ⟨e, _⟩ | ⟨a, len, cap, m, k, D, Pl, e, _, _, _, hm, hx, hi⟩
  · cases e; exact .inl ⟨none, 0, rfl⟩
  cases e
  rcases Nat.eq_zero_or_pos len with h0 | hpos
  · subst h0; exact .inl ⟨some a, cap, rfl⟩
  right
  rw [c_op] at hi
  have hlm : len ≤ m := by rw [hm]; split <;> omega
  have hsz2 : (len + (m - len)) * 160 ≤ 140737488351232 := by
    have := hsz ((len + (m - len)) * Try.prog.bytesOf 33) (by rw [hx]; simp [DataW.weights, Try.underlying22])
    rwa [b_op, reach_eq] at this
  obtain ⟨c0, hc0, _⟩ := hi 0 (by omega)
  obtain ⟨_, hl0, hat0⟩ := World.cells?_some hc0
  have h00 := hat0 0 (by decide)
  rw [Nat.zero_mul, show (a.add 0).add 0 = a by simp [Addr.add]] at h00
  obtain ⟨v0, hv0⟩ := get_lt (l := c0) (i := 0) (by omega)
  rw [hv0] at h00
  obtain ⟨l, T, fz, hb, hs, _⟩ := cell_heap h00
  obtain ⟨b, off, spot⟩ := a
  dsimp only at hs hb
  subst hs
  have key : ∀ i, i < len → ∃ o : Opn, SliceL l (off + i * 16) 16 (opC o) ∧ OpOk o ∧ (∃ a n c, o.L = .slice a n c ∧ n < 70368744177664) ∧ (∃ a n c, o.M = .slice a n c ∧ n < 70368744177664) := by
    intro i hil
    obtain ⟨cs, hcs, htr⟩ := hi i (by omega)
    obtain ⟨o, m', yL, yM, ds, rfl, hok, e1, e2, e3, hL, hM⟩ := dec_op htr
    have hw : ∀ (d : DataW H) (j : Nat), (j = 4 ∨ j = 5) → ds[j]? = some d → ∀ k ∈ DataW.weights Try.prog 31 d, k ≤ reachBytes := by
      intro d j hj hd k hk
      refine hsz k ?_
      rw [hx]
      simp only [DataW.weights, Try.underlying22, List.mem_cons, List.mem_append]
      refine .inr (.inl (weightsAll_mem (d := D i) (List.mem_map.2 ⟨i, List.mem_range.2 hil, rfl⟩) k ?_))
      have e1' : D i = .agg ds := e1
      rw [e1']
      simp only [DataW.weights, Try.underlying33]
      rcases hj with rfl | rfl
      · exact DataW.weights_mem_each (j := 4) rfl hd k hk
      · exact DataW.weights_mem_each (j := 5) rfl hd k hk
    exact ⟨o, row_cell hb (by decide) hcs, hok, dec_steps hL (hw _ 4 (.inl rfl) e2), dec_steps hM (hw _ 5 (.inr rfl) e3)⟩
  obtain ⟨ops, hol, hq⟩ := list_of len key
  subst hol
  refine ⟨b, off, cap, l, T, fz, ops, rfl, hb, ⟨fun i h => (hq i h).1, fun o ho => ?_, fun o ho => ?_, fun o ho => ?_⟩, by omega⟩
  · obtain ⟨i, hi', rfl⟩ := List.getElem_of_mem ho; exact (hq i hi').2.2.1
  · obtain ⟨i, hi', rfl⟩ := List.getElem_of_mem ho; exact (hq i hi').2.2.2
  · obtain ⟨i, hi', rfl⟩ := List.getElem_of_mem ho; exact (hq i hi').2.1

end
end Go.Br
