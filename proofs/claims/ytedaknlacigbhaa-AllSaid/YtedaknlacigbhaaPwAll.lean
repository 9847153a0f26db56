/-
  PROVED: All: whatever the script and the memory, the call returns true, and the script reads as it did. No condition.
-/
import Derived.Test.YtedaknlacigbhaaRows
import Derived.Test.YtedaknlacigbhaaPk31
import Derived.WideKeyArgs
namespace Go.Br
open Go Go.Lx Go.Proofs
open Go.Lx renaming rg_move → zA, rg_int → zB, rg_nilCheck → zC, rg_fieldAddr0 → zD, rg_fieldAddr → zE, rg_load → zF, rg_assign → zG, rg_loadAgg → zH, rg_extract → zI, rg_not → zJ, rg_pick → zK, rg_off → zL, rg_offU → zM, rg_store → zN, rg_storeAgg → zO, rg_convInt → zP, rg_done → zQ, ex_seq → zR, rg_start_s → zS, rg_start_d → zT, ex_cond_true → zU, ex_cond_false → zV, rg_alloc → zW, rg_boxAgg → zX, rg_build → zY, rg_lenSl → zZ, rg_lenMap → yA, ex_skip → yB, ex_block → yC, ex_inBlock → yD, ex_exit → yE, rg_caseG → yZ
set_option maxRecDepth 100000

theorem lwNil_ok (a : Option Addr) (cap : Nat) (Γ : List Ch) : CallsX Try.prog 7 #[.slice a 0 cap] Γ (fun v _ => v = .bool true) := by
  refine calls_of_body (args := [.slice a 0 cap]) Try.func7 rfl Try.ntmps7 fun X cs ret => ?_
  repeat (first|refine zA rfl ?_|refine zG rfl ?_|refine zQ ?_|refine zR ?_|refine zS ?_)
  refine rg_callE rfl (smallNil_ok a cap _) ?_
  refine ⟨.inl rfl, ?_⟩
  repeat (first|refine zA rfl ?_|refine zJ rfl ?_)
  refine rg_callE rfl (upToNil_ok a cap 0 _) ?_
  refine ⟨.inl rfl, ?_⟩
  repeat (first|refine zB rfl rfl rfl ?_|refine zG rfl ?_|refine zK rfl rfl ?_|refine zQ ?_)
  exact ex_retc ret Try.func7 rfl rfl

theorem lw_ok {X : Tgt} (hX : Co Try.prog X) (b off cap : Nat) (l : List Value) (T : TypeId) (fz : Nat × Nat) (ops : List Opn) (rd : List (List Stp × List Stp)) (Γ : List Ch) (sc : ScAt l off ops) (hl : ops.length < 70368744177664) (rk : RdOk ops rd) :
    CallsA Try.prog X 7 #[.slice (some ⟨b, off, none⟩) ops.length cap] (.pt b false (.cells ⟨l⟩ T fz) :: .pr (ScRd ops rd) :: Γ) (fun v _ => v = .bool true) := by
  refine calls_of_bodyA (args := [.slice (some ⟨b, off, none⟩) ops.length cap]) Try.func7 rfl Try.ntmps7 fun cs ret => ?_
  repeat (first|refine zA rfl ?_|refine zG rfl ?_|refine zQ ?_|refine zR ?_|refine zS ?_)
  refine rg_callE rfl (small_ok b off cap l T fz ops _ sc hl) ?_
  refine ⟨.inl rfl, ?_⟩
  rcases hs : smallGo ops ops.length with _ | _
  · repeat (first|refine zA rfl ?_|refine zG rfl ?_|refine zJ rfl ?_|refine zK rfl rfl ?_|refine zL rfl rfl rfl rfl (by decide) trivial rfl ?_|refine zQ ?_)
    exact ex_retc ret Try.func7 rfl rfl
  · have := smallGo_true _ _ hs
    repeat (first|refine zA rfl ?_|refine zJ rfl ?_)
    refine rg_callA rfl (upTo0_ok hX b off cap l T fz ops rd _ sc rk (by omega)) ?_
    rintro _ D rfl
    refine ⟨.inl rfl, ?_⟩
    repeat (first|refine zB rfl rfl rfl ?_|refine zG rfl ?_|refine zK rfl rfl ?_|refine zQ ?_)
    exact ex_retc ret Try.func7 rfl rfl

end Go.Br
namespace Go.Proofs.Ytedaknlacigbhaa
open Go.ChangeShapes Go.WideShapes Go.ChangeAt Go.RowKit Go.Lx Go.Br

theorem Try.own : ownKnob Try.prog.godebug = none := by kernel_rfl
theorem Try.laidOut : laidOutB Try.prog = true := by kernel_rfl
theorem Try.readable : Try.prog.readableRec 33 = true := by kernel_rfl

set_option maxRecDepth 100000 in
theorem all_lifted (os : Os) (started : os.Started) (H : Type) (enc : TypeId × Value → H) :
    ReturnsInLeavingWide {} Try.checked os 7 .any (Rows.allSpec.pre6 enc Try.prog Try.f7 Rows.allRow.domain false) (Rows.allSpec.post enc Try.prog Try.f7 false true false false) := by
  refine returnsInLeavingWide_of_change_sized (C := Try.checked) Try.own started Try.func7
    (ChangeSpec.witness6 (enc := enc) (C := Try.checked) false ⟨#[], #[.slice none 0 0], []⟩ 8 (by kernel_rfl) (by kernel_rfl) (by kernel_rfl) (by kernel_rfl)) ?_
  intro W base args ds gs before hval0 hW _ hsz0 _
  have hval : ∀ (j : Nat) t v, Try.f7.params[j]? = some t → args[j]? = some v → Value.okWide Try.prog W .any base t v := hval0
  have hsz : (DataW.weightsEach Try.prog (Try.f7.params.toList ++ Rows.allSpec.plain.varTypes Try.prog) (ds ++ gs)).all (· ≤ reachBytes) = true := hsz0
  have hW' := hW
  obtain ⟨p, q, hA0, hV, rfl, hfz, hnd⟩ := hW
  have hA : DataW.TrodAll enc Try.prog W 0 (fun _ => true) true Try.f7.params.toList args.toList ds p := hA0
  rw [Try.params7] at hA hval hsz
  obtain ⟨v0, d0, rfl, rfl, h0⟩ := trodAll_one hA
  obtain ⟨rfl, rfl⟩ := trodVars_none hV
  have h0' := h0
  obtain ⟨a0, n0, c0, e0⟩ := okWide_slice Try.underlying33 (hval 0 _ v0 rfl rfl)
  obtain ⟨fuel, hf⟩ := h0
  have hw : ∀ k ∈ DataW.weights Try.prog 33 d0, k ≤ reachBytes := fun k hk => of_decide_eq_true (List.all_eq_true.1 hsz k (DataW.weights_mem_each (j := 0) rfl rfl k hk))
  have hlt := hW'.lt
  have done : ∀ (v : Value) (_ : List Ch) (W' : World), v = .bool true → GrownO W W' → Rows.allSpec.post enc Try.prog Try.f7 false true false false W #[v0] v W' := by
    rintro v Γ' W' rfl g
    refine post_of_grown (pa := p) (pv := []) hW' (fun _ _ _ => trodAll_mk1 (shut_bool Try.underlying4 _)) (fun sp hsp => ?_) (fun _ _ => rfl) rfl g
    rw [Try.params7]
    exact trodAll_mk1 (Go.WideElems.Trod_stays Try.laidOut Try.readable (of_decide_eq_true (by kernel_rfl)) h0' (fun m hm => by
      have hm' := g.heap _ (hlt m (by simpa using hm))
      cases m with
      | cell bb oo => simp only [World.sameAt, World.cell?]; simp only [MemPlace.block] at hm'; rw [hm']
      | map bb => exact hm') (fun m hm => hsp m (by simpa using hm)))
  have hc : v0.cells.toList = [v0] := by rw [e0]; rfl
  rw [hc] at hf
  have hin : Try.prog.inits.idxOf? 7 = none := by kernel_rfl
  rcases open_scriptR hf hw with ⟨a, cap, rfl⟩ | ⟨b, off, cap, l, T, fz, ops, rd, rfl, hb, sc, hl, hrd⟩
  · exact good_of_callsA (fun X _ cs => lwNil_ok a cap [] X cs) hin (h := fun _ => none) (W := W) trivial (fun _ _ _ e => by cases e) (fun _ _ _ e => by cases e) done
  · exact good_of_callsA (fun X hX => lw_ok hX b off cap l T fz ops rd [] sc hl hrd.ok) hin (h := roAll W) (W := W) ⟨roAll W, roAll W, roAll_join W, by simp [Ch.sat, roAll, hb], roAll W, roAll W, roAll_join W, hrd.rd, trivial⟩ (roAll_sub W) (roAll_ro W) done

theorem all_holds : Rows.AllSaid :=
  OpenClaim.holds_of_wide_leaving 7 Try.f7 rfl rfl rfl rfl rfl rfl rfl ⟨rfl, rfl, rfl, rfl, rfl⟩ rfl rfl rfl rfl rfl (by kernel_rfl) Try.func7 (by kernel_rfl)
    (of_decide_eq_true (by kernel_rfl)) (by unfold Func.isWrapper; first | (rw [if_pos (by decide +kernel)]; kernel_rfl) | (rw [if_neg (by decide +kernel)]; exact ⟨rfl, rfl⟩))
    (fun os started H enc _ => all_lifted os started H enc)

end Go.Proofs.Ytedaknlacigbhaa
