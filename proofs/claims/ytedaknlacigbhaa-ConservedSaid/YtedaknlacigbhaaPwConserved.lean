/-
  PROVED: Conserved: whatever the string, the call returns true, and the string reads as it did. No condition.
-/
import Derived.Test.YtedaknlacigbhaaRows
import Derived.Test.YtedaknlacigbhaaPk23
import Derived.Test.YtedaknlacigbhaaPk11
import Derived.Conc.Holds
import Derived.WideKeyArgs
namespace Go.Proofs.Ytedaknlacigbhaa
open Go.ChangeShapes Go.WideShapes Go.ChangeAt Go.RowKit Go.Lx Go.Br

theorem Try.own : ownKnob Try.prog.godebug = none := by kernel_rfl
theorem Try.laidOut : laidOutB Try.prog = true := by kernel_rfl
theorem Try.readable : Try.prog.readableRec 9 = true := by kernel_rfl

set_option maxRecDepth 100000 in
theorem conserved_lifted (os : Os) (started : os.Started) (H : Type) (enc : TypeId × Value → H) :
    ReturnsInHanded {} Try.checked os 5 .any (Rows.conservedSpec.pre6 enc Try.prog Try.f5 Rows.conservedRow.domain false) (Rows.conservedSpec.post enc Try.prog Try.f5 false true false false) := by
  refine returnsInHanded_of_change_sized (C := Try.checked) Try.own started (by kernel_rfl) Try.func5
    (ChangeSpec.witness6 (enc := enc) (C := Try.checked) false ⟨#[], #[.string ByteArray.empty], []⟩ 8 (by kernel_rfl) (by kernel_rfl) (by kernel_rfl) (by kernel_rfl)) ?_
  intro W base args ds gs before hval0 hW _ _ _
  have hval : ∀ (j : Nat) t v, Try.f5.params[j]? = some t → args[j]? = some v → Value.okWide Try.prog W .any base t v := hval0
  have hW' := hW
  obtain ⟨p, q, hA0, hV, rfl, hfz, hnd⟩ := hW
  have hA : DataW.TrodAll enc Try.prog W 0 (fun _ => true) true Try.f5.params.toList args.toList ds p := hA0
  rw [Try.params5] at hA hval
  obtain ⟨v0, d0, rfl, rfl, h0⟩ := trodAll_one hA
  obtain ⟨rfl, rfl⟩ := trodVars_none hV
  obtain ⟨s, rfl⟩ := okWide_string Try.underlying9 (hval 0 _ v0 rfl rfl)
  have hlt := hW'.lt
  have done : ∀ e W', (∃ (v : Value) (_ : List Ch), e = Ending.returned v ∧ v = .bool true ∧ GrownO W W') → ∃ v, e = .returned v ∧ Rows.conservedSpec.post enc Try.prog Try.f5 false true false false W #[.string s] v W' := by
    rintro e W' ⟨v, Γ', he, rfl, g⟩
    refine ⟨_, he, post_of_grown (pa := p) (pv := []) hW' (fun _ _ _ => trodAll_mk1 (shut_bool Try.underlying4 _)) (fun sp hsp => ?_) (fun _ _ => rfl) rfl g⟩
    rw [Try.params5]
    exact trodAll_mk1 (Go.WideElems.Trod_stays Try.laidOut Try.readable (of_decide_eq_true (by kernel_rfl)) h0 (fun m hm => by
      have hm' := g.heap _ (hlt m (by simpa using hm))
      cases m with
      | cell bb oo => simp only [World.sameAt, World.cell?]; simp only [MemPlace.block] at hm'; rw [hm']
      | map bb => exact hm') (fun m hm => hsp m (by simpa using hm)))
  exact (calls_of_callsX (conserved_ok s []) (h := fun _ => none) (W := W) trivial (fun _ _ _ e => by cases e) (fun _ _ _ e => by cases e)).mono done

theorem conserved_holds : Rows.ConservedSaid :=
  OpenClaim.holds_of_wide_leaving 5 Try.f5 rfl rfl rfl rfl rfl rfl rfl ⟨rfl, rfl, rfl, rfl, rfl⟩ rfl rfl rfl rfl rfl (by kernel_rfl) Try.func5 (by kernel_rfl)
    (of_decide_eq_true (by kernel_rfl)) (by unfold Func.isWrapper; first | (rw [if_pos (by decide +kernel)]; kernel_rfl) | (rw [if_neg (by decide +kernel)]; exact ⟨rfl, rfl⟩))
    (fun os started H enc _ => leaving_of_handed (conserved_lifted os started H enc))

end Go.Proofs.Ytedaknlacigbhaa
