/-
  PROVED: Parted: whatever the three strings, the call returns true, and they read as they did. No condition.
-/
import Derived.Test.YtedaknlacigbhaaRows
import Derived.Test.YtedaknlacigbhaaPk29
import Derived.Test.YtedaknlacigbhaaPk27
import Derived.Conc.Holds
import Derived.WideKeyArgs
namespace Go.Proofs.Ytedaknlacigbhaa
open Go.ChangeShapes Go.WideShapes Go.ChangeAt Go.RowKit Go.Lx Go.Br

theorem Try.own : ownKnob Try.prog.godebug = none := by kernel_rfl
theorem Try.laidOut : laidOutB Try.prog = true := by kernel_rfl
theorem Try.readable : Try.prog.readableRec 9 = true := by kernel_rfl

set_option maxRecDepth 100000 in
theorem parted_lifted (os : Os) (started : os.Started) (H : Type) (enc : TypeId × Value → H) :
    ReturnsInLeavingWide {} Try.checked os 10 .any (Rows.partedSpec.pre6 enc Try.prog Try.f10 Rows.partedRow.domain false) (Rows.partedSpec.post enc Try.prog Try.f10 false true false false) := by
  refine returnsInLeavingWide_of_change_sized (C := Try.checked) Try.own started Try.func10
    (ChangeSpec.witness6 (enc := enc) (C := Try.checked) false ⟨#[], #[.string ByteArray.empty, .string ByteArray.empty, .string ByteArray.empty], []⟩ 8 (by kernel_rfl) (by kernel_rfl) (by kernel_rfl) (by kernel_rfl)) ?_
  intro W base args ds gs before hval0 hW _ _ _
  have hval : ∀ (j : Nat) t v, Try.f10.params[j]? = some t → args[j]? = some v → Value.okWide Try.prog W .any base t v := hval0
  have hW' := hW
  obtain ⟨p, q, hA0, hV, rfl, hfz, hnd⟩ := hW
  have hA : DataW.TrodAll enc Try.prog W 0 (fun _ => true) true Try.f10.params.toList args.toList ds p := hA0
  rw [Try.params10] at hA hval
  obtain ⟨v0, v1, v2, d0, d1, d2, p0, p1, p2, rfl, rfl, rfl, h0, h1, h2⟩ := trodAll_three hA
  obtain ⟨rfl, rfl⟩ := trodVars_none hV
  obtain ⟨s0, rfl⟩ := okWide_string Try.underlying9 (hval 0 _ v0 rfl rfl)
  obtain ⟨s1, rfl⟩ := okWide_string Try.underlying9 (hval 1 _ v1 rfl rfl)
  obtain ⟨s2, rfl⟩ := okWide_string Try.underlying9 (hval 2 _ v2 rfl rfl)
  have hlt := hW'.lt
  have done : ∀ (v : Value) (_ : List Ch) (W' : World), v = .bool true → GrownO W W' → Rows.partedSpec.post enc Try.prog Try.f10 false true false false W #[.string s0, .string s1, .string s2] v W' := by
    rintro v Γ' W' rfl g
    refine post_of_grown (pa := p0 ++ (p1 ++ p2)) (pv := []) hW' (fun _ _ _ => trodAll_mk1 (shut_bool Try.underlying4 _)) (fun sp hsp => ?_) (fun _ _ => rfl) (by simp) g
    rw [Try.params10]
    have stay : ∀ m ∈ p0 ++ (p1 ++ p2), World.sameAt W W' m := fun m hm => by
      have hm' := g.heap _ (hlt m (by simpa using hm))
      cases m with
      | cell bb oo => simp only [World.sameAt, World.cell?]; simp only [MemPlace.block] at hm'; rw [hm']
      | map bb => exact hm'
    exact trodAll_mk3 (Go.WideElems.Trod_stays Try.laidOut Try.readable (of_decide_eq_true (by kernel_rfl)) h0 (fun m hm => stay m (by simp [hm])) (fun m hm => hsp m (by simp [hm])))
      (Go.WideElems.Trod_stays Try.laidOut Try.readable (of_decide_eq_true (by kernel_rfl)) h1 (fun m hm => stay m (by simp [hm])) (fun m hm => hsp m (by simp [hm])))
      (Go.WideElems.Trod_stays Try.laidOut Try.readable (of_decide_eq_true (by kernel_rfl)) h2 (fun m hm => stay m (by simp [hm])) (fun m hm => hsp m (by simp [hm])))
  have hin : Try.prog.inits.idxOf? 10 = none := by kernel_rfl
  exact good_of_callsA (fun X hX => parted_ok hX s0 s1 s2 []) hin (h := fun _ => none) (W := W) trivial (fun _ _ _ e => by cases e) (fun _ _ _ e => by cases e) done

theorem parted_holds : Rows.PartedSaid :=
  OpenClaim.holds_of_wide_leaving 10 Try.f10 rfl rfl rfl rfl rfl rfl rfl ⟨rfl, rfl, rfl, rfl, rfl⟩ rfl rfl rfl rfl rfl (by kernel_rfl) Try.func10 (by kernel_rfl)
    (of_decide_eq_true (by kernel_rfl)) (by unfold Func.isWrapper; first | (rw [if_pos (by decide +kernel)]; kernel_rfl) | (rw [if_neg (by decide +kernel)]; exact ⟨rfl, rfl⟩))
    (fun os started H enc _ => parted_lifted os started H enc)

end Go.Proofs.Ytedaknlacigbhaa
