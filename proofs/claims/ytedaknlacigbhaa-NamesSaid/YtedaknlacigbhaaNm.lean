/-
  Contract of Names.
-/
import Derived.Test.YtedaknlacigbhaaLxL
import Derived.Test.YtedaknlacigbhaaLxS
namespace Go.Br
open Go Go.Lx Go.Proofs
set_option maxRecDepth 100000

theorem num_ok (e : Int) (Γ : List Ch) : CallsX Try.prog 15 #[.int .i64 e] Γ (fun v Δ => v = .int .i64 e ∧ Δ = Γ) := by
  refine calls_of_body (args := [.int .i64 e]) Try.func15 rfl Try.ntmps15 fun X cs ret => ?_
  repeat (first
    | refine rg_move rfl ?_ | refine rg_int rfl rfl rfl ?_ | refine rg_nilCheck rfl ?_ | refine rg_fieldAddr0 rfl ?_ | refine rg_fieldAddr rfl ?_ | refine rg_load rfl ?_ | refine rg_assign rfl ?_ | refine rg_loadAgg rfl ?_ | refine rg_extract rfl rfl ?_ | refine rg_not rfl ?_ | refine rg_pick rfl rfl ?_
    | refine rg_off rfl rfl rfl rfl (by decide) trivial rfl ?_ | refine rg_offU rfl rfl rfl rfl (by decide) trivial rfl ?_ | refine rg_store rfl rfl ?_ | refine rg_storeAgg rfl rfl ?_ | refine rg_convInt rfl ?_ | refine rg_done ?_ | refine ex_seq ?_ | refine rg_start_s ?_ | refine rg_start_d (by decide +kernel) (by decide +kernel) ?_ | refine ex_cond_true rfl ?_ | refine ex_cond_false rfl ?_
    | refine rg_alloc (fun bl => ?_) | refine rg_boxAgg rfl (fun bl => ?_) | refine rg_build rfl ?_ | refine rg_lenSl rfl ?_ | refine rg_lenMap rfl ?_ | refine ex_skip ?_ | refine ex_block ?_ | refine ex_inBlock ?_ | refine ex_exit rfl ?_)
  exact ex_retc ret Try.func15 rfl ⟨rfl, rfl⟩

theorem wrap_i64 {x : Int} (h : -9223372036854775808 ≤ x ∧ x < 9223372036854775808) : IntKind.wrap .i64 x = x := by
  by_cases h0 : 0 ≤ x
  · have h1 : x % 2 ^ 64 = x := by omega
    have h2 : ¬ 2 ^ 63 ≤ x := by omega
    simp [IntKind.wrap, IntKind.bits, IntKind.signed, h1]; omega
  · have h1 : x % 2 ^ 64 = x + 2 ^ 64 := by omega
    simp [IntKind.wrap, IntKind.bits, IntKind.signed, h1]; omega

set_option maxHeartbeats 1000000 in
theorem names_ok (Γ : List Ch) : CallsX Try.prog 3 #[] Γ (fun v _ => v = .bool true) := by
  refine calls_of_body (args := []) Try.func3 rfl Try.ntmps3 fun X cs ret => ?_
  repeat (first
    | refine rg_move rfl ?_ | refine rg_int rfl rfl rfl ?_ | refine rg_nilCheck rfl ?_ | refine rg_fieldAddr0 rfl ?_ | refine rg_fieldAddr rfl ?_ | refine rg_load rfl ?_ | refine rg_assign rfl ?_ | refine rg_loadAgg rfl ?_ | refine rg_extract rfl rfl ?_ | refine rg_not rfl ?_ | refine rg_pick rfl rfl ?_
    | refine rg_off rfl rfl rfl rfl (by decide) trivial rfl ?_ | refine rg_offU rfl rfl rfl rfl (by decide) trivial rfl ?_ | refine rg_store rfl rfl ?_ | refine rg_storeAgg rfl rfl ?_ | refine rg_convInt rfl ?_ | refine rg_done ?_ | refine ex_seq ?_ | refine rg_start_s ?_ | refine rg_start_d (by decide +kernel) (by decide +kernel) ?_ | refine ex_cond_true rfl ?_ | refine ex_cond_false rfl ?_
    | refine rg_alloc (fun bl => ?_) | refine rg_boxAgg rfl (fun bl => ?_) | refine rg_build rfl ?_ | refine rg_lenSl rfl ?_ | refine rg_lenMap rfl ?_ | refine ex_skip ?_ | refine ex_block ?_ | refine ex_inBlock ?_ | refine ex_exit rfl ?_)
  refine rg_buildSlice (vs := (List.range 17).map fun k : Nat => Value.int .i64 k) (l := (List.range 17).map fun k : Nat => Value.int .i64 k) rfl rfl rfl rfl (fun b1 => ?_)
  repeat (first
    | refine rg_move rfl ?_ | refine rg_int rfl rfl rfl ?_ | refine rg_nilCheck rfl ?_ | refine rg_fieldAddr0 rfl ?_ | refine rg_fieldAddr rfl ?_ | refine rg_load rfl ?_ | refine rg_assign rfl ?_ | refine rg_loadAgg rfl ?_ | refine rg_extract rfl rfl ?_ | refine rg_not rfl ?_ | refine rg_pick rfl rfl ?_
    | refine rg_off rfl rfl rfl rfl (by decide) trivial rfl ?_ | refine rg_offU rfl rfl rfl rfl (by decide) trivial rfl ?_ | refine rg_store rfl rfl ?_ | refine rg_storeAgg rfl rfl ?_ | refine rg_convInt rfl ?_ | refine rg_done ?_ | refine ex_seq ?_ | refine rg_start_s ?_ | refine rg_start_d (by decide +kernel) (by decide +kernel) ?_ | refine ex_cond_true rfl ?_ | refine ex_cond_false rfl ?_
    | refine rg_alloc (fun bl => ?_) | refine rg_boxAgg rfl (fun bl => ?_) | refine rg_build rfl ?_ | refine rg_lenSl rfl ?_ | refine rg_lenMap rfl ?_ | refine ex_skip ?_ | refine ex_block ?_ | refine ex_inBlock ?_ | refine ex_exit rfl ?_)
  refine ex_loop ?_
  refine ex_ind (fun i : Nat => 17 - i) (fun i => [(10, .int .i64 i), (9, .int .i64 17), (8, .slice (some ⟨b1, 0, none⟩) 17 17)]) (fun _ => .pt b1 true (.cells ⟨(List.range 17).map fun k : Nat => Value.int .i64 k⟩ 22 (0, 0)) :: Γ) (fun i => i ≤ 17) 0 (by omega) ⟨rfl, rfl, rfl, trivial⟩ rfl (fun i hi IH => ?_)
  repeat (first
    | refine rg_move rfl ?_ | refine rg_int rfl rfl rfl ?_ | refine rg_nilCheck rfl ?_ | refine rg_fieldAddr0 rfl ?_ | refine rg_fieldAddr rfl ?_ | refine rg_load rfl ?_ | refine rg_assign rfl ?_ | refine rg_loadAgg rfl ?_ | refine rg_extract rfl rfl ?_ | refine rg_not rfl ?_ | refine rg_pick rfl rfl ?_
    | refine rg_off rfl rfl rfl rfl (by decide) trivial rfl ?_ | refine rg_offU rfl rfl rfl rfl (by decide) trivial rfl ?_ | refine rg_store rfl rfl ?_ | refine rg_storeAgg rfl rfl ?_ | refine rg_convInt rfl ?_ | refine rg_done ?_ | refine ex_seq ?_ | refine rg_start_s ?_ | refine rg_start_d (by decide +kernel) (by decide +kernel) ?_ | refine ex_cond_true rfl ?_ | refine ex_cond_false rfl ?_
    | refine rg_alloc (fun bl => ?_) | refine rg_boxAgg rfl (fun bl => ?_) | refine rg_build rfl ?_ | refine rg_lenSl rfl ?_ | refine rg_lenMap rfl ?_ | refine ex_skip ?_ | refine ex_block ?_ | refine ex_inBlock ?_ | refine ex_exit rfl ?_)
  refine ex_cond_split rfl (fun h1 => ?_) (fun h1 => ?_)
  · have h1 := of_decide_eq_true h1
    repeat (first
    | refine rg_move rfl ?_ | refine rg_int rfl rfl rfl ?_ | refine rg_nilCheck rfl ?_ | refine rg_fieldAddr0 rfl ?_ | refine rg_fieldAddr rfl ?_ | refine rg_load rfl ?_ | refine rg_assign rfl ?_ | refine rg_loadAgg rfl ?_ | refine rg_extract rfl rfl ?_ | refine rg_not rfl ?_ | refine rg_pick rfl rfl ?_
    | refine rg_off rfl rfl rfl rfl (by decide) trivial rfl ?_ | refine rg_offU rfl rfl rfl rfl (by decide) trivial rfl ?_ | refine rg_store rfl rfl ?_ | refine rg_storeAgg rfl rfl ?_ | refine rg_convInt rfl ?_ | refine rg_done ?_ | refine ex_seq ?_ | refine rg_start_s ?_ | refine rg_start_d (by decide +kernel) (by decide +kernel) ?_ | refine ex_cond_true rfl ?_ | refine ex_cond_false rfl ?_
    | refine rg_alloc (fun bl => ?_) | refine rg_boxAgg rfl (fun bl => ?_) | refine rg_build rfl ?_ | refine rg_lenSl rfl ?_ | refine rg_lenMap rfl ?_ | refine ex_skip ?_ | refine ex_block ?_ | refine ex_inBlock ?_ | refine ex_exit rfl ?_)
    refine rg_indexSl rfl rfl ⟨by omega, by exact h1⟩ ?_
    refine rg_load (v := .int .i64 i) rfl ?_ (by rw [List.getElem?_map, Nat.zero_add, Nat.mul_one, Int.toNat_natCast, List.getElem?_range (by omega)]; rfl)
    repeat (first
    | refine rg_move rfl ?_ | refine rg_int rfl rfl rfl ?_ | refine rg_nilCheck rfl ?_ | refine rg_fieldAddr0 rfl ?_ | refine rg_fieldAddr rfl ?_ | refine rg_load rfl ?_ | refine rg_assign rfl ?_ | refine rg_loadAgg rfl ?_ | refine rg_extract rfl rfl ?_ | refine rg_not rfl ?_ | refine rg_pick rfl rfl ?_
    | refine rg_off rfl rfl rfl rfl (by decide) trivial rfl ?_ | refine rg_offU rfl rfl rfl rfl (by decide) trivial rfl ?_ | refine rg_store rfl rfl ?_ | refine rg_storeAgg rfl rfl ?_ | refine rg_convInt rfl ?_ | refine rg_done ?_ | refine ex_seq ?_ | refine rg_start_s ?_ | refine rg_start_d (by decide +kernel) (by decide +kernel) ?_ | refine ex_cond_true rfl ?_ | refine ex_cond_false rfl ?_
    | refine rg_alloc (fun bl => ?_) | refine rg_boxAgg rfl (fun bl => ?_) | refine rg_build rfl ?_ | refine rg_lenSl rfl ?_ | refine rg_lenMap rfl ?_ | refine ex_skip ?_ | refine ex_block ?_ | refine ex_inBlock ?_ | refine ex_exit rfl ?_)
    refine rg_call rfl (num_ok _ _) ?_
    rintro _ _ ⟨rfl, rfl⟩
    refine ⟨.inl rfl, ?_⟩
    repeat (first
    | refine rg_move rfl ?_ | refine rg_int rfl rfl rfl ?_ | refine rg_nilCheck rfl ?_ | refine rg_fieldAddr0 rfl ?_ | refine rg_fieldAddr rfl ?_ | refine rg_load rfl ?_ | refine rg_assign rfl ?_ | refine rg_loadAgg rfl ?_ | refine rg_extract rfl rfl ?_ | refine rg_not rfl ?_ | refine rg_pick rfl rfl ?_
    | refine rg_off rfl rfl rfl rfl (by decide) trivial rfl ?_ | refine rg_offU rfl rfl rfl rfl (by decide) trivial rfl ?_ | refine rg_store rfl rfl ?_ | refine rg_storeAgg rfl rfl ?_ | refine rg_convInt rfl ?_ | refine rg_done ?_ | refine ex_seq ?_ | refine rg_start_s ?_ | refine rg_start_d (by decide +kernel) (by decide +kernel) ?_ | refine ex_cond_true rfl ?_ | refine ex_cond_false rfl ?_
    | refine rg_alloc (fun bl => ?_) | refine rg_boxAgg rfl (fun bl => ?_) | refine rg_build rfl ?_ | refine rg_lenSl rfl ?_ | refine rg_lenMap rfl ?_ | refine ex_skip ?_ | refine ex_block ?_ | refine ex_inBlock ?_ | refine ex_exit rfl ?_)
    refine ex_cond_false (by simp [Env.val, Env.get]) ?_
    repeat (first
    | refine rg_move rfl ?_ | refine rg_int rfl rfl rfl ?_ | refine rg_nilCheck rfl ?_ | refine rg_fieldAddr0 rfl ?_ | refine rg_fieldAddr rfl ?_ | refine rg_load rfl ?_ | refine rg_assign rfl ?_ | refine rg_loadAgg rfl ?_ | refine rg_extract rfl rfl ?_ | refine rg_not rfl ?_ | refine rg_pick rfl rfl ?_
    | refine rg_off rfl rfl rfl rfl (by decide) trivial rfl ?_ | refine rg_offU rfl rfl rfl rfl (by decide) trivial rfl ?_ | refine rg_store rfl rfl ?_ | refine rg_storeAgg rfl rfl ?_ | refine rg_convInt rfl ?_ | refine rg_done ?_ | refine ex_seq ?_ | refine rg_start_s ?_ | refine rg_start_d (by decide +kernel) (by decide +kernel) ?_ | refine ex_cond_true rfl ?_ | refine ex_cond_false rfl ?_
    | refine rg_alloc (fun bl => ?_) | refine rg_boxAgg rfl (fun bl => ?_) | refine rg_build rfl ?_ | refine rg_lenSl rfl ?_ | refine rg_lenMap rfl ?_ | refine ex_skip ?_ | refine ex_block ?_ | refine ex_inBlock ?_ | refine ex_exit rfl ?_)
    rw [wrap_i64 (by omega)]
    refine ex_inLoop ?_
    exact Ex.sup (IH (i + 1) (by omega) (by omega)) ⟨rfl, rfl, rfl, trivial⟩
  have h1 := of_decide_eq_false h1
  repeat (first
    | refine rg_move rfl ?_ | refine rg_int rfl rfl rfl ?_ | refine rg_nilCheck rfl ?_ | refine rg_fieldAddr0 rfl ?_ | refine rg_fieldAddr rfl ?_ | refine rg_load rfl ?_ | refine rg_assign rfl ?_ | refine rg_loadAgg rfl ?_ | refine rg_extract rfl rfl ?_ | refine rg_not rfl ?_ | refine rg_pick rfl rfl ?_
    | refine rg_off rfl rfl rfl rfl (by decide) trivial rfl ?_ | refine rg_offU rfl rfl rfl rfl (by decide) trivial rfl ?_ | refine rg_store rfl rfl ?_ | refine rg_storeAgg rfl rfl ?_ | refine rg_convInt rfl ?_ | refine rg_done ?_ | refine ex_seq ?_ | refine rg_start_s ?_ | refine rg_start_d (by decide +kernel) (by decide +kernel) ?_ | refine ex_cond_true rfl ?_ | refine ex_cond_false rfl ?_
    | refine rg_alloc (fun bl => ?_) | refine rg_boxAgg rfl (fun bl => ?_) | refine rg_build rfl ?_ | refine rg_lenSl rfl ?_ | refine rg_lenMap rfl ?_ | refine ex_skip ?_ | refine ex_block ?_ | refine ex_inBlock ?_ | refine ex_exit rfl ?_)
  refine rg_buildSlice (vs := (List.range 9).map fun k : Nat => Value.int .i64 (k + 1)) (l := (List.range 9).map fun k : Nat => Value.int .i64 (k + 1)) rfl rfl rfl rfl (fun b2 => ?_)
  repeat (first
    | refine rg_move rfl ?_ | refine rg_int rfl rfl rfl ?_ | refine rg_nilCheck rfl ?_ | refine rg_fieldAddr0 rfl ?_ | refine rg_fieldAddr rfl ?_ | refine rg_load rfl ?_ | refine rg_assign rfl ?_ | refine rg_loadAgg rfl ?_ | refine rg_extract rfl rfl ?_ | refine rg_not rfl ?_ | refine rg_pick rfl rfl ?_
    | refine rg_off rfl rfl rfl rfl (by decide) trivial rfl ?_ | refine rg_offU rfl rfl rfl rfl (by decide) trivial rfl ?_ | refine rg_store rfl rfl ?_ | refine rg_storeAgg rfl rfl ?_ | refine rg_convInt rfl ?_ | refine rg_done ?_ | refine ex_seq ?_ | refine rg_start_s ?_ | refine rg_start_d (by decide +kernel) (by decide +kernel) ?_ | refine ex_cond_true rfl ?_ | refine ex_cond_false rfl ?_
    | refine rg_alloc (fun bl => ?_) | refine rg_boxAgg rfl (fun bl => ?_) | refine rg_build rfl ?_ | refine rg_lenSl rfl ?_ | refine rg_lenMap rfl ?_ | refine ex_skip ?_ | refine ex_block ?_ | refine ex_inBlock ?_ | refine ex_exit rfl ?_)
  refine ex_loop ?_
  refine ex_ind (fun i : Nat => 9 - i) (fun i => [(23, .int .i64 i), (22, .int .i64 9), (21, .slice (some ⟨b2, 0, none⟩) 9 9)]) (fun _ => .pt b2 true (.cells ⟨(List.range 9).map fun k : Nat => Value.int .i64 (k + 1)⟩ 25 (0, 0)) :: .pt b1 true (.cells ⟨(List.range 17).map fun k : Nat => Value.int .i64 k⟩ 22 (0, 0)) :: Γ) (fun i => i ≤ 9) 0 (by omega) ⟨rfl, rfl, rfl, trivial⟩ rfl (fun i hi IH => ?_)
  repeat (first
    | refine rg_move rfl ?_ | refine rg_int rfl rfl rfl ?_ | refine rg_nilCheck rfl ?_ | refine rg_fieldAddr0 rfl ?_ | refine rg_fieldAddr rfl ?_ | refine rg_load rfl ?_ | refine rg_assign rfl ?_ | refine rg_loadAgg rfl ?_ | refine rg_extract rfl rfl ?_ | refine rg_not rfl ?_ | refine rg_pick rfl rfl ?_
    | refine rg_off rfl rfl rfl rfl (by decide) trivial rfl ?_ | refine rg_offU rfl rfl rfl rfl (by decide) trivial rfl ?_ | refine rg_store rfl rfl ?_ | refine rg_storeAgg rfl rfl ?_ | refine rg_convInt rfl ?_ | refine rg_done ?_ | refine ex_seq ?_ | refine rg_start_s ?_ | refine rg_start_d (by decide +kernel) (by decide +kernel) ?_ | refine ex_cond_true rfl ?_ | refine ex_cond_false rfl ?_
    | refine rg_alloc (fun bl => ?_) | refine rg_boxAgg rfl (fun bl => ?_) | refine rg_build rfl ?_ | refine rg_lenSl rfl ?_ | refine rg_lenMap rfl ?_ | refine ex_skip ?_ | refine ex_block ?_ | refine ex_inBlock ?_ | refine ex_exit rfl ?_)
  refine ex_cond_split rfl (fun h1 => ?_) (fun h1 => ?_)
  · have h1 := of_decide_eq_true h1
    repeat (first
    | refine rg_move rfl ?_ | refine rg_int rfl rfl rfl ?_ | refine rg_nilCheck rfl ?_ | refine rg_fieldAddr0 rfl ?_ | refine rg_fieldAddr rfl ?_ | refine rg_load rfl ?_ | refine rg_assign rfl ?_ | refine rg_loadAgg rfl ?_ | refine rg_extract rfl rfl ?_ | refine rg_not rfl ?_ | refine rg_pick rfl rfl ?_
    | refine rg_off rfl rfl rfl rfl (by decide) trivial rfl ?_ | refine rg_offU rfl rfl rfl rfl (by decide) trivial rfl ?_ | refine rg_store rfl rfl ?_ | refine rg_storeAgg rfl rfl ?_ | refine rg_convInt rfl ?_ | refine rg_done ?_ | refine ex_seq ?_ | refine rg_start_s ?_ | refine rg_start_d (by decide +kernel) (by decide +kernel) ?_ | refine ex_cond_true rfl ?_ | refine ex_cond_false rfl ?_
    | refine rg_alloc (fun bl => ?_) | refine rg_boxAgg rfl (fun bl => ?_) | refine rg_build rfl ?_ | refine rg_lenSl rfl ?_ | refine rg_lenMap rfl ?_ | refine ex_skip ?_ | refine ex_block ?_ | refine ex_inBlock ?_ | refine ex_exit rfl ?_)
    refine rg_indexSl rfl rfl ⟨by omega, by exact h1⟩ ?_
    refine rg_load (v := .int .i64 (i + 1)) rfl ?_ (by rw [List.getElem?_map, Nat.zero_add, Nat.mul_one, Int.toNat_natCast, List.getElem?_range (by omega)]; rfl)
    repeat (first
    | refine rg_move rfl ?_ | refine rg_int rfl rfl rfl ?_ | refine rg_nilCheck rfl ?_ | refine rg_fieldAddr0 rfl ?_ | refine rg_fieldAddr rfl ?_ | refine rg_load rfl ?_ | refine rg_assign rfl ?_ | refine rg_loadAgg rfl ?_ | refine rg_extract rfl rfl ?_ | refine rg_not rfl ?_ | refine rg_pick rfl rfl ?_
    | refine rg_off rfl rfl rfl rfl (by decide) trivial rfl ?_ | refine rg_offU rfl rfl rfl rfl (by decide) trivial rfl ?_ | refine rg_store rfl rfl ?_ | refine rg_storeAgg rfl rfl ?_ | refine rg_convInt rfl ?_ | refine rg_done ?_ | refine ex_seq ?_ | refine rg_start_s ?_ | refine rg_start_d (by decide +kernel) (by decide +kernel) ?_ | refine ex_cond_true rfl ?_ | refine ex_cond_false rfl ?_
    | refine rg_alloc (fun bl => ?_) | refine rg_boxAgg rfl (fun bl => ?_) | refine rg_build rfl ?_ | refine rg_lenSl rfl ?_ | refine rg_lenMap rfl ?_ | refine ex_skip ?_ | refine ex_block ?_ | refine ex_inBlock ?_ | refine ex_exit rfl ?_)
    refine ex_cond_false (by rw [wrap_i64 (by omega)]; simp [Env.val, Env.get]) ?_
    repeat (first
    | refine rg_move rfl ?_ | refine rg_int rfl rfl rfl ?_ | refine rg_nilCheck rfl ?_ | refine rg_fieldAddr0 rfl ?_ | refine rg_fieldAddr rfl ?_ | refine rg_load rfl ?_ | refine rg_assign rfl ?_ | refine rg_loadAgg rfl ?_ | refine rg_extract rfl rfl ?_ | refine rg_not rfl ?_ | refine rg_pick rfl rfl ?_
    | refine rg_off rfl rfl rfl rfl (by decide) trivial rfl ?_ | refine rg_offU rfl rfl rfl rfl (by decide) trivial rfl ?_ | refine rg_store rfl rfl ?_ | refine rg_storeAgg rfl rfl ?_ | refine rg_convInt rfl ?_ | refine rg_done ?_ | refine ex_seq ?_ | refine rg_start_s ?_ | refine rg_start_d (by decide +kernel) (by decide +kernel) ?_ | refine ex_cond_true rfl ?_ | refine ex_cond_false rfl ?_
    | refine rg_alloc (fun bl => ?_) | refine rg_boxAgg rfl (fun bl => ?_) | refine rg_build rfl ?_ | refine rg_lenSl rfl ?_ | refine rg_lenMap rfl ?_ | refine ex_skip ?_ | refine ex_block ?_ | refine ex_inBlock ?_ | refine ex_exit rfl ?_)
    rw [wrap_i64 (by omega)]
    refine ex_inLoop ?_
    exact Ex.sup (IH (i + 1) (by omega) (by omega)) ⟨rfl, rfl, rfl, trivial⟩
  repeat (first
    | refine rg_move rfl ?_ | refine rg_int rfl rfl rfl ?_ | refine rg_nilCheck rfl ?_ | refine rg_fieldAddr0 rfl ?_ | refine rg_fieldAddr rfl ?_ | refine rg_load rfl ?_ | refine rg_assign rfl ?_ | refine rg_loadAgg rfl ?_ | refine rg_extract rfl rfl ?_ | refine rg_not rfl ?_ | refine rg_pick rfl rfl ?_
    | refine rg_off rfl rfl rfl rfl (by decide) trivial rfl ?_ | refine rg_offU rfl rfl rfl rfl (by decide) trivial rfl ?_ | refine rg_store rfl rfl ?_ | refine rg_storeAgg rfl rfl ?_ | refine rg_convInt rfl ?_ | refine rg_done ?_ | refine ex_seq ?_ | refine rg_start_s ?_ | refine rg_start_d (by decide +kernel) (by decide +kernel) ?_ | refine ex_cond_true rfl ?_ | refine ex_cond_false rfl ?_
    | refine rg_alloc (fun bl => ?_) | refine rg_boxAgg rfl (fun bl => ?_) | refine rg_build rfl ?_ | refine rg_lenSl rfl ?_ | refine rg_lenMap rfl ?_ | refine ex_skip ?_ | refine ex_block ?_ | refine ex_inBlock ?_ | refine ex_exit rfl ?_)
  exact ex_retc ret Try.func3 rfl rfl

end Go.Br
