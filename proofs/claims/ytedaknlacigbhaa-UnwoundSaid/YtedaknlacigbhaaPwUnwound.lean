/-
  PROVED: Unwound: whatever the string and the number, the call returns true, and they read as they did. No condition.
-/
import Derived.Test.YtedaknlacigbhaaRows
import Derived.Test.YtedaknlacigbhaaPk24
import Derived.Test.YtedaknlacigbhaaPk11
import Derived.Conc.Holds
import Derived.WideKeyArgs
namespace Go.Proofs.Ytedaknlacigbhaa
open Go.ChangeShapes Go.WideShapes Go.ChangeAt Go.RowKit Go.Lx Go.Br

theorem Try.own : ownKnob Try.prog.godebug = none := by kernel_rfl
theorem Try.laidOut : laidOutB Try.prog = true := by kernel_rfl
theorem Try.readable : Try.prog.readableRec 9 = true := by kernel_rfl
theorem Try.readableI : Try.prog.readableRec 3 = true := by kernel_rfl

set_option maxRecDepth 100000 in
theorem unwound_lifted (os : Os) (started : os.Started) (H : Type) (enc : TypeId × Value → H) :
    ReturnsInHanded {} Try.checked os 8 .any (Rows.unwoundSpec.pre6 enc Try.prog Try.f8 Rows.unwoundRow.domain false) (Rows.unwoundSpec.post enc Try.prog Try.f8 false true false false) := by
  refine returnsInHanded_of_change_sized (C := Try.checked) Try.own started (by kernel_rfl) Try.func8
    (ChangeSpec.witness6 (enc := enc) (C := Try.checked) false ⟨#[], #[.string ByteArray.empty, .int .i64 0], []⟩ 8 (by kernel_rfl) (by kernel_rfl) (by kernel_rfl) (by kernel_rfl)) ?_
  intro W base args ds gs before hval0 hW _ _ _
  have hval : ∀ (j : Nat) t v, Try.f8.params[j]? = some t → args[j]? = some v → Value.okWide Try.prog W .any base t v := hval0
  have hW' := hW
  obtain ⟨p, q, hA0, hV, rfl, hfz, hnd⟩ := hW
  have hA : DataW.TrodAll enc Try.prog W 0 (fun _ => true) true Try.f8.params.toList args.toList ds p := hA0
  rw [Try.params8] at hA hval
  obtain ⟨v0, v1, d0, d1, p0, p1, rfl, rfl, rfl, h0, h1⟩ := trodAll_two hA
  obtain ⟨rfl, rfl⟩ := trodVars_none hV
  obtain ⟨s, rfl⟩ := okWide_string Try.underlying9 (hval 0 _ v0 rfl rfl)
  obtain ⟨f, rfl⟩ := okWide_int Try.underlying3 (hval 1 _ v1 rfl rfl)
  have hlt := hW'.lt
  have done : ∀ e W', (∃ (v : Value) (_ : List Ch), e = Ending.returned v ∧ v = .bool true ∧ GrownO W W') → ∃ v, e = .returned v ∧ Rows.unwoundSpec.post enc Try.prog Try.f8 false true false false W #[.string s, .int .i64 f] v W' := by
    rintro e W' ⟨v, Γ', he, rfl, g⟩
    refine ⟨_, he, post_of_grown (pa := p0 ++ p1) (pv := []) hW' (fun _ _ _ => trodAll_mk1 (shut_bool Try.underlying4 _)) (fun sp hsp => ?_) (fun _ _ => rfl) rfl g⟩
    rw [Try.params8]
    have stay : ∀ m ∈ p0 ++ p1, World.sameAt W W' m := fun m hm => by
      have hm' := g.heap _ (hlt m (by simpa using hm))
      cases m with
      | cell bb oo => simp only [World.sameAt, World.cell?]; simp only [MemPlace.block] at hm'; rw [hm']
      | map bb => exact hm'
    exact trodAll_mk2 (Go.WideElems.Trod_stays Try.laidOut Try.readable (of_decide_eq_true (by kernel_rfl)) h0 (fun m hm => stay m (List.mem_append_left _ hm)) (fun m hm => hsp m (by simpa using Or.inl hm)))
      (Go.WideElems.Trod_stays Try.laidOut Try.readableI (of_decide_eq_true (by kernel_rfl)) h1 (fun m hm => stay m (List.mem_append_right _ hm)) (fun m hm => hsp m (by simpa using Or.inr hm)))
  exact (calls_of_callsX (unwound_ok s f []) (h := fun _ => none) (W := W) trivial (fun _ _ _ e => by cases e) (fun _ _ _ e => by cases e)).mono done

theorem unwound_holds : Rows.UnwoundSaid :=
  OpenClaim.holds_of_wide_leaving 8 Try.f8 rfl rfl rfl rfl rfl rfl rfl ⟨rfl, rfl, rfl, rfl, rfl⟩ rfl rfl rfl rfl rfl (by kernel_rfl) Try.func8 (by kernel_rfl)
    (of_decide_eq_true (by kernel_rfl)) (by unfold Func.isWrapper; first | (rw [if_pos (by decide +kernel)]; kernel_rfl) | (rw [if_neg (by decide +kernel)]; exact ⟨rfl, rfl⟩))
    (fun os started H enc _ => leaving_of_handed (unwound_lifted os started H enc))

end Go.Proofs.Ytedaknlacigbhaa
