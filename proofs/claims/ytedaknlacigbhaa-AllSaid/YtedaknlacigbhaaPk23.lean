/-
  Lemmas towards the law, proved without conditions of their own: THE LAW: pick, same, mine; THE LAW: alike.
-/
import Derived.Test.YtedaknlacigbhaaPk22
namespace Go.Lx
open Go
section
variable {P : Program} {X : Tgt} {b : Base} {n : Nat} {dr : Bool} {ops : Array Oper} {lo : Nat} {ex : List Nat} {fl : Floats} {E : Env} {rem : List Oper} {k : List Item} {cs : List Frame} {Γ : List Ch}
variable {d : Nat} {T : TypeId} {pos : String} {af : Array Edge} {gd : Option (Nat × Bool)}
theorem rg_neg {x : Operand} {t : TypeId} {kk : IntKind} {a : Int} (hx : Env.val E x = some (.int kk a)) (e : Rg P X b n dr ops (lo + 1) ex fl ((d, .int kk (kk.wrap (0 - a))) :: E) rem k cs Γ)
    (hdn : d < n := by decide) (hex : NotYet ex lo := trivial) (hg : GuardOK ops ⟨some d, .unOp .neg t x, T, pos, af, gd⟩ E := by first | exact trivial | exact ⟨_, rfl, rfl⟩) :
    Rg P X b n dr ops lo ex fl E (⟨some d, .unOp .neg t x, T, pos, af, gd⟩ :: rem) k cs Γ :=
  rg_pure rfl hdn hex rfl hg (fun _ ρ h hρ _ => by
    have h1 := hρ x (by simp [Op.operands]) _ hx
    simp [execOp, nxv, h1, Op.unary, Op.intArith]) e
end
end Go.Lx
namespace Go.Br
open Go Go.Lx Go.Proofs
open Go.Lx renaming rg_move → zA, rg_int → zB, rg_nilCheck → zC, rg_fieldAddr0 → zD, rg_fieldAddr → zE, rg_load → zF, rg_assign → zG, rg_loadAgg → zH, rg_extract → zI, rg_not → zJ, rg_pick → zK, rg_off → zL, rg_offU → zM, rg_store → zN, rg_storeAgg → zO, rg_convInt → zP, rg_done → zQ, ex_seq → zR, rg_start_s → zS, rg_start_d → zT, ex_cond_true → zU, ex_cond_false → zV, rg_alloc → zW, rg_boxAgg → zX, rg_build → zY, rg_lenSl → zZ, rg_lenMap → yA, ex_skip → yB, ex_block → yC, ex_inBlock → yD, ex_exit → yE, rg_caseG → yZ
set_option maxRecDepth 100000

/-- Which of n things the raw number speaks of. -/
def pickI (c : Int) (n : Nat) : Nat := (if c < 0 then -(c + 1) else c).toNat % n

theorem pick_ok (c : Int) (n : Nat) (Γ : List Ch) (hc : -9223372036854775808 ≤ c ∧ c < 9223372036854775808) (hn : 0 < n) :
    CallsX Try.prog 52 #[.int .i64 c, .int .i64 n] Γ (fun v Δ => v = .int .i64 (pickI c n) ∧ Δ = Γ) := by
  refine calls_of_body (args := [.int .i64 c, .int .i64 n]) Try.func52 rfl Try.ntmps52 fun X cs ret => ?_
  have key : ∀ x : Int, 0 ≤ x → x.tmod (n : Int) = ((x.toNat % n : Nat) : Int) := fun x hx => by
    rw [Int.tmod_eq_emod_of_nonneg hx, Int.natCast_emod, Int.toNat_of_nonneg hx]
  repeat (first|refine zA rfl ?_|refine zB rfl rfl rfl ?_|refine zG rfl ?_|refine zQ ?_|refine zR ?_|refine zS ?_)
  refine ex_cond_split rfl (fun h1 => ?_) (fun h1 => ?_)
  · have h1 := of_decide_eq_true h1
    repeat (first|refine zA rfl ?_|refine zB rfl rfl rfl ?_|refine zS ?_)
    rw [rwrap (x := c + 1) (by omega)]
    refine rg_neg rfl ?_
    rw [rwrap (x := 0 - (c + 1)) (by omega)]
    repeat (first|refine zA rfl ?_|refine zG rfl ?_|refine zQ ?_|refine zR ?_|refine zS ?_)
    refine rg_rem rfl rfl (by omega) ?_
    repeat (first|refine zG rfl ?_|refine zQ ?_)
    refine ex_retc ret Try.func52 rfl ⟨?_, rfl⟩
    simp only [packV, pickI, if_pos h1]
    rw [key _ (by omega), show 0 - (c + 1) = -(c + 1) by omega]
  · have h1 := of_decide_eq_false h1
    repeat (first|refine zA rfl ?_|refine zR ?_|refine zS ?_|refine yB ?_)
    refine rg_rem rfl rfl (by omega) ?_
    repeat (first|refine zG rfl ?_|refine zQ ?_)
    refine ex_retc ret Try.func52 rfl ⟨?_, rfl⟩
    simp only [packV, pickI, if_neg h1]
    rw [key _ (by omega)]

theorem map_get {l : List Int} {i : Nat} (h : i < l.length) (slack : List Value) : (l.map (Value.int .u64) ++ slack)[i]? = some (.int .u64 l[i]) := by
  rw [List.getElem?_append_left (by simpa using h), List.getElem?_map, List.getElem?_eq_getElem h]; rfl

set_option maxHeartbeats 1000000 in
theorem same_ok (p p' : Bool) (va vb : Value) (l : List Int) (Γ : List Ch) (hl : l.length < 1000000000) :
    CallsX Try.prog 67 #[va, vb] (.pr (SlP p 36 1 va (l.map (Value.int .u64)) l.length) :: .pr (SlP p' 36 1 vb (l.map (Value.int .u64)) l.length) :: Γ)
      (fun v Δ => v = .bool true ∧ Ent Δ (.pr (SlP p 36 1 va (l.map (Value.int .u64)) l.length) :: .pr (SlP p' 36 1 vb (l.map (Value.int .u64)) l.length) :: Γ)) := by
  refine CallsX.open_ slp_shapeO fun w hw => ?_
  obtain ⟨aa, ac⟩ := w
  dsimp only at hw
  subst hw
  refine CallsX.ent (front_ent 1) (CallsX.open_ slp_shapeO fun w hw => CallsX.ent (front_ent 1) ?_)
  obtain ⟨ba, bc⟩ := w
  dsimp only at hw
  subst hw
  refine calls_of_body (args := [.slice aa l.length ac, .slice ba l.length bc]) Try.func67 rfl Try.ntmps67 fun X cs ret => ?_
  repeat (first|refine zA rfl ?_|refine zB rfl rfl rfl ?_|refine zG rfl ?_|refine zQ ?_|refine zR ?_|refine zS ?_|refine zZ rfl ?_)
  refine ex_cond_false (by simp [Env.val, Env.get]) ?_
  repeat (first|refine zA rfl ?_|refine zQ ?_|refine zR ?_|refine zS ?_|refine zZ rfl ?_|refine yB ?_|refine yC ?_)
  refine ex_loop ?_
  refine ex_ind (ι := Nat) (fun i => l.length + 1 - i) (fun i => [(13, .int .i64 i), (12, .int .i64 l.length), (0, .slice aa l.length ac), (1, .slice ba l.length bc)])
    (fun _ => .pr (SlP p 36 1 (.slice aa l.length ac) (l.map (Value.int .u64)) l.length) :: .pr (SlP p' 36 1 (.slice ba l.length bc) (l.map (Value.int .u64)) l.length) :: Γ)
    (fun i => i ≤ l.length) 0 (Nat.zero_le _) ⟨rfl, rfl, rfl, rfl, trivial⟩ rfl (fun i hi IH => ?_)
  repeat (first|refine zB rfl rfl rfl ?_|refine zQ ?_|refine zR ?_|refine zS ?_)
  refine ex_cond_split rfl (fun h1 => ?_) (fun h1 => ?_)
  · have hlt : i < l.length := by have := of_decide_eq_true h1; omega
    repeat (first|refine zR ?_|refine yB ?_|refine yC ?_)
    refine ex_slp (fun _ _ h => absurd h (by omega)) (fun b0 cap slack hs hz => ?_)
    simp only [Value.slice.injEq, true_and] at hs
    obtain ⟨rfl, rfl⟩ := hs
    (refine Ex.front 1 ?_)
    refine ex_slp (fun _ _ h => absurd h (by omega)) (fun b1 cap1 slack1 hs1 hz1 => ?_)
    simp only [Value.slice.injEq, true_and] at hs1
    obtain ⟨rfl, rfl⟩ := hs1
    repeat (first|refine zA rfl ?_|refine zG rfl ?_|refine zQ ?_|refine zR ?_|refine zS ?_|refine zT (by decide+kernel) (by decide+kernel) ?_)
    refine rg_indexSl rfl rfl ⟨by omega, by omega⟩ ?_
    refine rg_load rfl ?_ (by rw [Int.toNat_natCast, Nat.zero_add, Nat.mul_one]; exact map_get hlt slack)
    repeat refine zA rfl ?_
    refine rg_indexSl rfl rfl ⟨by omega, by omega⟩ ?_
    refine rg_load rfl ?_ (by rw [Int.toNat_natCast, Nat.zero_add, Nat.mul_one]; exact map_get hlt slack1)
    repeat (first|refine zB rfl rfl rfl ?_|refine zQ ?_)
    refine ex_cond_false (by simp [Env.val, Env.get]) ?_
    repeat (first|refine yB ?_|refine yD ?_)
    refine Ex.ent (EntR.e (slp_fold b1 bc slack1 hz1)) ?_
    (refine Ex.front 1 ?_)
    refine Ex.ent (EntR.e (slp_fold b0 ac slack hz)) ?_
    repeat (first|refine zA rfl ?_|refine zB rfl rfl rfl ?_|refine zQ ?_|refine zS ?_)
    refine ex_inLoop ?_
    rw [rwrap (by omega)]
    exact Ex.sup (IH (i + 1) (by omega) (by omega)) ⟨rfl, rfl, rfl, rfl, trivial⟩
  · have hge : i = l.length := by have := of_decide_eq_false h1; omega
    repeat (first|refine zG rfl ?_|refine zQ ?_|refine zR ?_|refine zS ?_|refine yE rfl ?_)
    exact ex_retc ret Try.func67 rfl ⟨rfl, Ent.refl _⟩

theorem set_front {m : Value} {xs slack : List Value} {i n : Nat} (hn : xs.length = n) (h : i < n) : SetL (List.replicate i m ++ xs.drop i ++ slack) i [m] (List.replicate (i + 1) m ++ xs.drop (i + 1) ++ slack) := by
  refine ⟨List.replicate i m, [xs[i]], xs.drop (i + 1) ++ slack, ?_, by simp, rfl, ?_⟩
  · rw [List.append_assoc, List.append_assoc, List.drop_eq_getElem_cons (by omega)]; rfl
  · rw [List.replicate_succ']; simp

theorem slp_lenO {p : Bool} {el m : Nat} {s : Value} {xs : List Value} {len : Nat} {Γ : List Ch} : ∀ h, Star (.pr (SlP p el m s xs len) :: Γ) h → ∃ _ : Unit, xs.length = len * m ∧ Star (.pr (SlP p el m s xs len) :: Γ) h := fun h st => by
  obtain ⟨h1, h2, j, v1, st'⟩ := id st
  refine ⟨(), ?_, st⟩
  rcases v1 with ⟨_, e, e'⟩ | ⟨_, _, _, _, _, e, _⟩
  · rw [e, e']; simp
  · exact e

abbrev wdC (w : Nat) (bs ls es : Value) (lack : Bool) : Ch := .pt w true (.cells ⟨[bs, ls, es, .bool lack]⟩ 89 (0, 0))
/-- The mark of a list that was handed out. -/
abbrev markV (k : Nat) : Value := .int .u64 (9223372036854775808 + k)

set_option maxHeartbeats 2000000 in
theorem mine_ok (w : Nat) (bs ls es l : Value) (lack : Bool) (xs lx : List Value) (n nl : Nat) (Γ : List Ch) (hn : n < 1000000000) (hnl : nl < 1000000000) :
    CallsX Try.prog 68 #[ptrV w, l] (wdC w bs ls es lack :: .pr (SlV 53 1 ls lx nl) :: .pr (SlV 36 1 l xs n) :: Γ)
      (fun v Δ => ∃ ls' l', v = .tuple #[] ∧ oneC l' = true ∧ Ent Δ (wdC w bs ls' es lack :: .pr (SlV 53 1 ls' (lx ++ [l']) (nl + 1)) :: .pr (SlV 36 1 l' (List.replicate (n + 2) (markV nl)) (n + 2)) :: Γ)) := by
  refine CallsX.ent (front_ent 2) (CallsX.open_ (slp_shapeO (p := true)) fun z hz => ?_)
  obtain ⟨la, lc⟩ := z
  dsimp only at hz
  subst hz
  refine CallsX.ent (front_ent 2) (CallsX.open_ (slp_shapeO (p := true)) fun z hz => ?_)
  obtain ⟨sa, sc⟩ := z
  dsimp only at hz
  subst hz
  refine calls_of_body (args := [ptrV w, .slice la n lc]) Try.func68 rfl Try.ntmps68 fun X cs ret => ?_
  repeat (first|refine zA rfl ?_|refine zB rfl rfl rfl ?_|refine zC rfl ?_|refine zE rfl ?_|refine zF rfl ?_|refine zG rfl ?_|refine zP rfl ?_|refine zQ ?_|refine zR ?_|refine zS ?_|refine zZ rfl ?_|refine yC ?_)
  rw [show IntKind.wrap .u64 (nl : Int) = nl from wu_id (by omega), show IntKind.wrap .u64 (9223372036854775808 + (nl : Int)) = 9223372036854775808 + nl from wu_id (by omega)]
  refine ex_loop ?_
  (refine Ex.front 2 ?_; refine Ex.front 1 ?_; refine Ex.front 2 ?_)
  refine ex_ind (ι := Nat) (fun i => n + 1 - i) (fun i => [(16, .int .i64 i), (15, .int .i64 n), (1, .slice la n lc), (4, markV nl), (0, ptrV w)])
    (fun i => .pr (SlV 36 1 (.slice la n lc) (List.replicate i (markV nl) ++ xs.drop i) n) :: .pr (SlV 53 1 (.slice sa nl sc) lx nl) :: wdC w bs (.slice sa nl sc) es lack :: Γ)
    (fun i => i ≤ n) 0 (Nat.zero_le _) ⟨rfl, rfl, rfl, rfl, rfl, trivial⟩ rfl (fun i hi IH => ?_)
  repeat (first|refine zB rfl rfl rfl ?_|refine zQ ?_|refine zR ?_|refine zS ?_)
  refine ex_cond_split rfl (fun h1 => ?_) (fun h1 => ?_)
  · have hlt : i < n := by have := of_decide_eq_true h1; omega
    repeat (first|refine zR ?_|refine yB ?_|refine yC ?_)
    refine ex_slp (p := true) (fun _ _ h => absurd h (by omega)) (fun b0 cap slack hs hz => ?_)
    simp only [Value.slice.injEq, true_and] at hs
    obtain ⟨rfl, rfl⟩ := hs
    have hxl : xs.length = n := by
      have := hz.2.1
      rw [List.length_append, List.length_replicate, List.length_drop] at this
      omega
    repeat (first|refine zA rfl ?_|refine zG rfl ?_|refine zQ ?_|refine zS ?_)
    refine rg_indexSl rfl rfl ⟨by omega, by omega⟩ ?_
    rw [Int.toNat_natCast, Nat.zero_add (i * 1), Nat.mul_one]
    haveI := set_front (m := markV nl) (slack := slack) hxl hlt
    refine rg_store rfl rfl ?_
    repeat (first|refine zQ ?_|refine yD ?_)
    refine Ex.ent (EntR.e (slp_fold b0 lc slack ⟨hz.1, by rw [List.length_append, List.length_replicate, List.length_drop]; omega, hz.2.2⟩)) ?_
    repeat (first|refine zA rfl ?_|refine zB rfl rfl rfl ?_|refine zQ ?_|refine zS ?_)
    refine ex_inLoop ?_
    rw [rwrap (by omega)]
    exact Ex.sup (IH (i + 1) (by omega) (by omega)) ⟨rfl, rfl, rfl, rfl, rfl, trivial⟩
  · have hge : i = n := by have := of_decide_eq_false h1; omega
    subst hge
    repeat (first|refine zR ?_|refine yE rfl ?_)
    refine Ex.open_ (slp_lenO (p := true)) fun _ hl => ?_
    have hd : xs.drop i = [] := by
      rw [List.length_append, List.length_replicate] at hl
      exact List.eq_nil_of_length_eq_zero (by omega)
    rw [hd, List.append_nil]
    repeat (first|refine zA rfl ?_|refine zS ?_)
    refine rg_buildSlice (vs := [markV nl, markV nl]) rfl rfl rfl rfl (fun b2 => ?_)
    (refine Rg.front 1 ?_)
    refine rg_append (xs := List.replicate i (markV nl)) (ys := [markV nl, markV nl]) (len := i) (c := 2) rfl rfl (.inr ⟨b2, 0, 2, true, [markV nl, markV nl], 36, (0, 0), rfl, Find.mem, inferInstance⟩) (fun v hv => by simp only [List.mem_cons, List.not_mem_nil, or_false] at hv; rcases hv with rfl | rfl <;> rfl) (by omega) (by omega) (fun s' => .inl rfl) (fun l' hone => ?_)
    repeat (first|refine zG rfl ?_|refine zQ ?_|refine zR ?_)
    refine Ex.open_ (slp_shapeO (p := true)) fun z hz => ?_
    obtain ⟨a', c'⟩ := z
    dsimp only at hz
    subst hz
    repeat (first|refine zA rfl ?_|refine zC rfl ?_|refine zE rfl ?_|refine zF rfl ?_|refine zS ?_)
    refine rg_buildSlice (vs := [.slice a' (i + 2) c']) rfl rfl rfl rfl (fun b3 => ?_)
    (refine Rg.front 3 ?_)
    refine rg_append (xs := lx) (ys := [.slice a' (i + 2) c']) (len := nl) (c := 1) rfl rfl (.inr ⟨b3, 0, 1, true, [.slice a' (i + 2) c'], 53, (0, 0), rfl, Find.mem, inferInstance⟩) (fun v hv => by rw [List.mem_singleton.1 hv]; rfl) (by omega) (by omega) (fun s' => .inl rfl) (fun ls' hone' => ?_)
    repeat (first|refine zA rfl ?_|refine zC rfl ?_|refine zE rfl ?_|refine zG rfl ?_|refine zQ ?_|refine zS ?_)
    refine rg_store rfl rfl ?_ hone'
    repeat refine zQ ?_
    (refine Ex.front 2 ?_; refine Ex.front 1 ?_; refine Ex.front 4 ?_; refine Ex.front 4 ?_; refine Ex.front 4 ?_)
    refine ex_ende ret Try.func68 rfl (Ent.drop (Ent.drop (Ent.refl _))) ⟨ls', .slice a' (i + 2) c', rfl, rfl, ?_⟩
    rw [show List.replicate i (markV nl) ++ [markV nl, markV nl] = List.replicate (i + 2) (markV nl) by
      rw [List.replicate_succ', List.replicate_succ']; simp]
    exact Ent.refl _

end Go.Br

namespace Go.Lx
open Go
section
variable {P : Program} {X : Tgt} {b : Base} {n : Nat} {dr : Bool} {ops : Array Oper} {lo : Nat} {ex : List Nat} {fl : Floats} {E : Env} {rem : List Oper} {k : List Item} {cs : List Frame} {Γ : List Ch}
variable {d : Nat} {T : TypeId} {pos : String} {af : Array Edge} {gd : Option (Nat × Bool)}

/-- A call that leaves of the heap what is known of it, whatever that is: it may run later, too. -/
theorem rg_callQE {f : FuncId} {args : List Operand} {at' : Array TypeId} {vs : List Value} {v0 : Value} [hb : HasBody P f] (ha : vals E args = some vs) (hc : ∀ Δ, CallsX P f vs.toArray Δ (fun v Δ' => v = v0 ∧ Ent Δ' Δ))
    (e : Rg P X b n dr ops (lo + 1) ex fl ((d, v0) :: E) rem k cs Γ)
    (hdn : d < n := by decide) (hex : NotYet ex lo := trivial) (hg : GuardOK ops ⟨some d, .call ⟨.value (.func f), ⟨args⟩, at'⟩, T, pos, af, gd⟩ E := by first | exact trivial | exact ⟨_, rfl, rfl⟩) :
    Rg P X b n dr ops lo ex fl E (⟨some d, .call ⟨.value (.func f), ⟨args⟩, at'⟩, T, pos, af, gd⟩ :: rem) k cs Γ := by
  cases dr with
  | false => exact rg_callE ha (hc Γ) ⟨.inl rfl, e⟩ hdn hex hg (.inl rfl)
  | true =>
    refine rg_quiet_gen (v := v0) fl rfl hdn hex (fun _ h => h) rfl (fun _ T0 t hr => .inl fun Δ => ?_) (fun h => by cases h) e
    have hrr : ∀ s ∈ readsOf ops ⟨some d, .call ⟨.value (.func f), ⟨args⟩, at'⟩, T, pos, af, gd⟩, T0[s]? = (T0.setIfInBounds d v0)[s]? := fun s hs => (Array.getElem?_setIfInBounds_ne (fun e => hr s hs e.symm)).symm
    refine ⟨v0, fun d' e => ?_, rfl, .inr (.inr ⟨?_, fun b R i l k cs h ho hre hw s e' => ?_⟩)⟩
    · cases e
      exact Array.getElem?_setIfInBounds_self_of_lt (by rw [t.size]; exact hdn)
    · rw [← wanted_congr hrr]; exact wanted_of t hg
    · refine does_call (E := E) ha (hc Δ X) b R ops i l k cs h ho hw (fun x hx u hu => ?_) s fun v Γ' h' hφ s' => ?_
      · rw [hre x hx, ← evT_congr hrr x hx]; exact evT_of t hu
      · obtain ⟨rfl, hE⟩ := hφ
        obtain ⟨h'', le, s''⟩ := hE h' s'
        exact (e' h'' s'').mono le
end
end Go.Lx
namespace Go.Br
open Go Go.Lx Go.Proofs
open Go.Lx renaming rg_move → zA, rg_int → zB, rg_nilCheck → zC, rg_fieldAddr0 → zD, rg_fieldAddr → zE, rg_load → zF, rg_assign → zG, rg_loadAgg → zH, rg_extract → zI, rg_not → zJ, rg_pick → zK, rg_off → zL, rg_offU → zM, rg_store → zN, rg_storeAgg → zO, rg_convInt → zP, rg_done → zQ, ex_seq → zR, rg_start_s → zS, rg_start_d → zT, ex_cond_true → zU, ex_cond_false → zV, rg_alloc → zW, rg_boxAgg → zX, rg_build → zY, rg_lenSl → zZ, rg_lenMap → yA, ex_skip → yB, ex_block → yC, ex_inBlock → yD, ex_exit → yE, rg_caseG → yZ
set_option maxRecDepth 100000

/-- A step of a script. -/
structure Opn where
  kind : Int
  a : Int
  c : Int
  s : Stp
  L : Value
  M : Value
  n : Int
  d : Int

abbrev opC (o : Opn) : List Value := [.int .i64 o.kind, .int .i64 o.a, .int .i64 o.c, .int .i64 o.s.kind, .int .u64 o.s.n, .int .u64 o.s.p.seq, .int .i64 o.s.p.frm, .int .i64 o.s.p.to, .int .i64 o.s.p.coin, .int .u64 o.s.p.amount, .int .u64 o.s.p.height, .int .u64 o.s.p.time, o.L, o.M, .int .u64 o.n, .int .i64 o.d]
abbrev opV (o : Opn) : Value := .agg ⟨opC o⟩

theorem hdRes_none {s : Cn} {h : Int} (x : (s.heads.length : Int) ≤ h) : hdRes s h = (shZ, 8) := by rw [hdRes, if_pos x]
theorem hdRes_some {s : Cn} {h : Int} (x : ¬ (s.heads.length : Int) ≤ h) {q : Hd} (hq : s.heads[h.toNat]? = some q) : hdRes s h = (shOf q, 0) := by
  rw [hdRes, if_neg x, List.getD_eq_getElem?_getD, hq]; rfl
theorem same_x1 {s0 s1 : Cn} {c h d g : Int} (x : c ≠ 0) (y : c ≠ 1) : sameRes s0 s1 c h d g = false := by simp [sameRes, headRes, x, y]
theorem same_x2 {s0 s1 : Cn} {c h d g : Int} (x : d ≠ 0) (y : d ≠ 1) : sameRes s0 s1 c h d g = false := by simp [sameRes, headRes, x, y]
theorem same_n1 {s0 s1 : Cn} {c h d g : Int} (e : (headRes s0 s1 c h).2 = 8) : sameRes s0 s1 c h d g = false := by simp [sameRes, e]
theorem same_n2 {s0 s1 : Cn} {c h d g : Int} (e : (headRes s0 s1 d g).2 = 8) : sameRes s0 s1 c h d g = false := by simp [sameRes, e]
theorem zs_get {s : Cn} {zs : List RZ} (e : zs.map (·.1) = s.heads) {i : Nat} (h : i < s.heads.length) : ∃ z, zs[i]? = some z ∧ s.heads[i]? = some z.1 := by
  have hl : zs.length = s.heads.length := by rw [← e, List.length_map]
  exact ⟨zs[i]'(by omega), List.getElem?_eq_getElem _, by rw [← e, List.getElem?_map, List.getElem?_eq_getElem (by omega : i < zs.length)]; rfl⟩

theorem rheads_shape {zs : List RZ} {Γ : List Ch} : ∀ h, Star (.pr (RHeads zs) :: Γ) h → ∃ _ : Unit, (∀ z ∈ zs, ∃ (a1 a2 : Option Addr) (k1 k2 : Nat), z = (z.1, .slice a1 z.1.packets.length k1, .slice a2 z.1.answers.length k2)) ∧ Star (.pr (RHeads zs) :: Γ) h := fun h st => by
  obtain ⟨h1, h2, j, v, st'⟩ := id st
  refine ⟨(), fun z hz => ?_, st⟩
  obtain ⟨v1, v2⟩ := v z hz
  obtain ⟨a1, k1, e1⟩ := slp_shape v1
  obtain ⟨a2, k2, e2⟩ := slp_shape v2
  exact ⟨a1, a2, k1, k2, by rw [← e1, ← e2]⟩

set_option maxHeartbeats 8000000 in
theorem alike_ok (m : Nat) (S : Bg) (o : Opn) (B : Nat) (Γ : List Ch) (ok : BgOk B S) (hB : B < 100000000) (hh : 0 ≤ o.n) (hg : 0 ≤ o.s.n) :
    CallsX Try.prog 56 #[ptrV m, opV o] (.pr (ModAt m S) :: Γ) (fun v Δ => v = .bool (sameRes S.s0 S.s1 o.c o.n o.d o.s.n) ∧ Ent Δ (.pr (ModAt m S) :: Γ)) := by
  obtain ⟨okind, oa, oc, os, oL, oM, on', od⟩ := o
  dsimp only [opV, opC] at hh hg ⊢
  have hl0 := heads_len ok.ok0 hB
  have hl1 := heads_len ok.ok1 hB
  have hp0 : 0 < S.s0.heads.length := by have := ok.k1; omega
  have hp1 : 0 < S.s1.heads.length := by have := ok.k0; omega
  refine CallsX.open_ mod_open fun z _ => ?_
  obtain ⟨c0, c1⟩ := z
  dsimp only
  refine CallsX.ent (front_ent 1) (CallsX.open_ ref_open fun y0 ok0 => ?_)
  obtain ⟨pv0, av0, hv0, zs0⟩ := y0
  dsimp only [refL]
  refine CallsX.ent (front_ent 6) (CallsX.open_ ref_open fun y1 ok1 => ?_)
  obtain ⟨pv1, av1, hv1, zs1⟩ := y1
  dsimp only [refL]
  have e0 : zs0.length = S.s0.heads.length := by rw [← ok0.heads, List.length_map]
  have e1 : zs1.length = S.s1.heads.length := by rw [← ok1.heads, List.length_map]
  refine CallsX.ent (front_ent 4) (CallsX.open_ rheads_shape fun _ sh1 => ?_)
  refine CallsX.ent (front_ent 9) (CallsX.open_ rheads_shape fun _ sh0 => ?_)
  refine calls_of_body (args := [ptrV m, .agg ⟨[.int .i64 okind, .int .i64 oa, .int .i64 oc, .int .i64 os.kind, .int .u64 os.n, .int .u64 os.p.seq, .int .i64 os.p.frm, .int .i64 os.p.to, .int .i64 os.p.coin, .int .u64 os.p.amount, .int .u64 os.p.height, .int .u64 os.p.time, oL, oM, .int .u64 on', .int .i64 od]⟩]) Try.func56 rfl Try.ntmps56 fun X cs ret => ?_
  (refine Ex.front 1 ?_; refine Ex.front 4 ?_; refine Ex.front 4 ?_; refine Ex.front 4 ?_; refine Ex.front 4 ?_; refine Ex.front 8 ?_; refine Ex.front 8 ?_; refine Ex.front 8 ?_; refine Ex.front 10 ?_; refine Ex.front 9 ?_; refine Ex.front 10 ?_)
  refine ex_slp (p := true) (fun _ _ h => absurd h (by omega)) (fun hb0 cap0 slack0 hs0 hz0 => ?_)
  subst hs0
  (refine Ex.front 1 ?_)
  refine ex_slp (p := true) (fun _ _ h => absurd h (by omega)) (fun hb1 cap1 slack1 hs1 hz1 => ?_)
  subst hs1
  have fin : Ent (.pt hb1 true (.cells ⟨zs1.flatMap hdC ++ slack1⟩ 129 (0, 0)) :: .pt hb0 true (.cells ⟨zs0.flatMap hdC ++ slack0⟩ 129 (0, 0)) :: mdC m (ptrV c0) (ptrV c1) S.tk ::
      .pt c0 true (.cells ⟨rcCells S.s0 pv0 av0 (.slice (some ⟨hb0, 0, none⟩) zs0.length cap0)⟩ 132 (0, 0)) :: .pr (SlV 49 7 pv0 (pkFl S.s0.hd.packets) S.s0.hd.packets.length) :: .pr (SlV 186 2 av0 (anFl S.s0.hd.answers) S.s0.hd.answers.length) :: .pr (RHeads zs0) ::
      .pt c1 true (.cells ⟨rcCells S.s1 pv1 av1 (.slice (some ⟨hb1, 0, none⟩) zs1.length cap1)⟩ 132 (0, 0)) :: .pr (SlV 49 7 pv1 (pkFl S.s1.hd.packets) S.s1.hd.packets.length) :: .pr (SlV 186 2 av1 (anFl S.s1.hd.answers) S.s1.hd.answers.length) :: .pr (RHeads zs1) :: Γ) (.pr (ModAt m S) :: Γ) := by
    refine Ent.trans (EntR.e (slp_fold hb1 cap1 slack1 hz1)) ?_
    refine Ent.trans (front_ent 1) (Ent.trans (EntR.e (slp_fold hb0 cap0 slack0 hz0)) ?_)
    (refine Ent.trans (front_ent 2) ?_; refine Ent.trans (front_ent 6) ?_; refine Ent.trans (front_ent 2) ?_; refine Ent.trans (front_ent 6) ?_; refine Ent.trans (front_ent 6) ?_; refine Ent.trans (front_ent 6) ?_; refine Ent.trans (front_ent 10) ?_; refine Ent.trans (front_ent 7) ?_; refine Ent.trans (front_ent 10) ?_; refine Ent.trans (front_ent 10) ?_; refine Ent.trans (front_ent 10) ?_)
    refine Ent.trans (ref_fold ⟨pv1, av1, _, zs1⟩ ok1) ?_
    refine Ent.trans (Ent.cons (ref_fold ⟨pv0, av0, _, zs0⟩ ok0)) ?_
    refine Ent.trans (front_ent 1) (Ent.trans (front_ent 2) (EntR.e (mod_fold c0 c1 rfl)))
  refine ex_seq (rg_start_s (rg_boxAgg rfl fun b1 => ?_))
  repeat (first|refine zA rfl ?_|refine zB rfl rfl rfl ?_|refine zE rfl ?_|refine zF rfl ?_|refine zG rfl ?_|refine zQ ?_|refine zR ?_|refine zT (by decide+kernel) (by decide+kernel) ?_)
  refine rg_caseG rfl rfl (fun g1 => ?_) (fun g1 => ?_)
  · have g1 := of_decide_eq_true g1
    have e : sameRes S.s0 S.s1 oc on' od os.n = false := same_x1 (by omega) (by omega)
    repeat (first|refine zA rfl ?_|refine zG rfl ?_|refine zK rfl rfl ?_|refine zL rfl rfl rfl rfl (by decide) trivial rfl ?_|refine zQ ?_|refine zR ?_|refine zS ?_|refine zU rfl ?_)
    refine ex_rete ret Try.func56 rfl (Ent.drop fin) ⟨?_, Ent.refl _⟩
    rw [e]; rfl
  have g1 := of_decide_eq_false g1
  repeat (first|refine zA rfl ?_|refine zB rfl rfl rfl ?_|refine zE rfl ?_|refine zF rfl ?_|refine zK rfl rfl ?_)
  refine rg_caseG rfl rfl (fun g2 => ?_) (fun g2 => ?_)
  · have g2 := of_decide_eq_true g2
    have e : sameRes S.s0 S.s1 oc on' od os.n = false := same_x1 (by omega) (by omega)
    repeat (first|refine zA rfl ?_|refine zG rfl ?_|refine zK rfl rfl ?_|refine zL rfl rfl rfl rfl (by decide) trivial rfl ?_|refine zQ ?_|refine zR ?_|refine zS ?_|refine zU rfl ?_)
    refine ex_rete ret Try.func56 rfl (Ent.drop fin) ⟨?_, Ent.refl _⟩
    rw [e]; rfl
  have g2 := of_decide_eq_false g2
  repeat (first|refine zA rfl ?_|refine zB rfl rfl rfl ?_|refine zE rfl ?_|refine zF rfl ?_|refine zK rfl rfl ?_)
  refine rg_caseG rfl rfl (fun g3 => ?_) (fun g3 => ?_)
  · have g3 := of_decide_eq_true g3
    have e : sameRes S.s0 S.s1 oc on' od os.n = false := same_x2 (by omega) (by omega)
    repeat (first|refine zA rfl ?_|refine zG rfl ?_|refine zK rfl rfl ?_|refine zL rfl rfl rfl rfl (by decide) trivial rfl ?_|refine zQ ?_|refine zR ?_|refine zS ?_|refine zU rfl ?_)
    refine ex_rete ret Try.func56 rfl (Ent.drop fin) ⟨?_, Ent.refl _⟩
    rw [e]; rfl
  have g3 := of_decide_eq_false g3
  repeat (first|refine zA rfl ?_|refine zB rfl rfl rfl ?_|refine zE rfl ?_|refine zF rfl ?_|refine zK rfl rfl ?_)
  refine rg_caseG rfl rfl (fun g4 => ?_) (fun g4 => ?_)
  · have g4 := of_decide_eq_true g4
    have e : sameRes S.s0 S.s1 oc on' od os.n = false := same_x2 (by omega) (by omega)
    repeat (first|refine zA rfl ?_|refine zG rfl ?_|refine zK rfl rfl ?_|refine zL rfl rfl rfl rfl (by decide) trivial rfl ?_|refine zQ ?_|refine zR ?_|refine zS ?_|refine zU rfl ?_)
    refine ex_rete ret Try.func56 rfl (Ent.drop fin) ⟨?_, Ent.refl _⟩
    rw [e]; rfl
  have g4 := of_decide_eq_false g4
  repeat (first|refine zA rfl ?_|refine zC rfl ?_|refine zD rfl ?_|refine zE rfl ?_|refine zF rfl ?_)
  have hc : oc = 0 ∨ oc = 1 := by omega
  have hd : od = 0 ∨ od = 1 := by omega
  rcases hc with rfl | rfl <;> rcases hd with rfl | rfl
  · refine rg_indexArr rfl rfl (by decide) ?_
    rw [show (0 + Int.toNat 0 * 1 : Nat) = 0 from rfl]
    repeat (first|refine zA rfl ?_|refine zB rfl rfl rfl ?_|refine zC rfl ?_|refine zE rfl ?_|refine zF rfl ?_|refine zK rfl rfl ?_|refine zP rfl ?_|refine zZ rfl ?_)
    rw [show IntKind.wrap .u64 (zs0.length : Int) = zs0.length from wu_id (by omega)]
    refine rg_caseG rfl rfl (fun g5 => ?_) (fun g5 => ?_)
    · have g5 := of_decide_eq_true g5
      have e : sameRes S.s0 S.s1 0 on' 0 os.n = false := same_n1 (by rw [show headRes S.s0 S.s1 0 on' = hdRes S.s0 on' from rfl, hdRes_none (by omega)])
      repeat (first|refine zG rfl ?_|refine zK rfl rfl ?_|refine zL rfl rfl rfl rfl (by decide) trivial rfl ?_|refine zQ ?_|refine zR ?_|refine zS ?_|refine zU rfl ?_)
      refine ex_rete ret Try.func56 rfl (Ent.drop fin) ⟨?_, Ent.refl _⟩
      rw [e]; rfl
    have g5 := of_decide_eq_false g5
    repeat (first|refine zA rfl ?_|refine zC rfl ?_|refine zD rfl ?_|refine zE rfl ?_|refine zF rfl ?_)
    refine rg_indexArr rfl rfl (by decide) ?_
    rw [show (0 + Int.toNat 0 * 1 : Nat) = 0 from rfl]
    repeat (first|refine zB rfl rfl rfl ?_|refine zC rfl ?_|refine zE rfl ?_|refine zF rfl ?_|refine zK rfl rfl ?_|refine zP rfl ?_|refine zQ ?_|refine zZ rfl ?_)
    rw [show IntKind.wrap .u64 (zs0.length : Int) = zs0.length from wu_id (by omega)]
    refine ex_cond_split rfl (fun g6 => ?_) (fun g6 => ?_)
    · have g6 := of_decide_eq_true g6
      have e : sameRes S.s0 S.s1 0 on' 0 os.n = false := same_n2 (by rw [show headRes S.s0 S.s1 0 os.n = hdRes S.s0 os.n from rfl, hdRes_none (by omega)])
      repeat (first|refine zG rfl ?_|refine zQ ?_|refine zR ?_|refine zS ?_)
      refine ex_rete ret Try.func56 rfl (Ent.drop fin) ⟨?_, Ent.refl _⟩
      rw [e]; rfl
    have g6 := of_decide_eq_false g6
    obtain ⟨q1, hq1, hx1⟩ := zs_get (i := on'.toNat) ok0.heads (by omega)
    obtain ⟨q2, hq2, hx2⟩ := zs_get (i := os.n.toNat) ok0.heads (by omega)
    obtain ⟨a1, a2, k1, k2, w1⟩ := sh0 q1 (List.mem_of_getElem? hq1)
    obtain ⟨a3, a4, k3, k4, w2⟩ := sh0 q2 (List.mem_of_getElem? hq2)
    have e : sameRes S.s0 S.s1 0 on' 0 os.n = decide (shOf q1.1 = shOf q2.1) := by
      unfold sameRes
      rw [show headRes S.s0 S.s1 0 on' = hdRes S.s0 on' from rfl, show headRes S.s0 S.s1 0 os.n = hdRes S.s0 os.n from rfl, hdRes_some (by omega) hx1, hdRes_some (by omega) hx2]
      simp
    rw [w1] at hq1
    rw [w2] at hq2
    repeat (first|refine zR ?_|refine yB ?_)
    (refine rg_start_p [0, 1, 2, 3, 4, 5, 6, 7, 8, 9, 10, 11, 12, 13, 14, 15, 16, 17, 18, 19, 20, 21, 22, 23, 24, 25, 26, 27, 28, 29, 30, 31, 32] (by decide +kernel) (by decide +kernel) (by simp only [permL, List.getElem?_cons_succ, List.getElem?_cons_zero]; rfl) ?_)
    repeat (first|refine zA rfl ?_|refine zC rfl ?_|refine zD rfl ?_|refine zE rfl ?_|refine zF rfl ?_)
    refine rg_indexArr rfl rfl (by decide) ?_
    rw [show (0 + Int.toNat 0 * 1 : Nat) = 0 from rfl]
    repeat (first|refine zC rfl ?_|refine zE rfl ?_|refine zF rfl ?_)
    refine rg_indexSl rfl rfl ⟨by omega, by omega⟩ ?_
    rw [Nat.zero_add (on'.toNat * 6)]
    haveI := sliceL_flat hdC_len zs0 on'.toNat _ hq1 slack0
    refine rg_loadAgg rfl ?_
    skip
    refine rg_callQE rfl (fun Δ => rhead_ok q1.1 a1 a2 k1 k2 Δ) ?_
    repeat (first|refine zA rfl ?_|refine zC rfl ?_|refine zD rfl ?_|refine zE rfl ?_|refine zF rfl ?_)
    refine rg_indexArr rfl rfl (by decide) ?_
    rw [show (0 + Int.toNat 0 * 1 : Nat) = 0 from rfl]
    repeat (first|refine zC rfl ?_|refine zE rfl ?_|refine zF rfl ?_)
    refine rg_indexSl rfl rfl ⟨by omega, by omega⟩ ?_
    rw [Nat.zero_add (os.n.toNat * 6)]
    haveI := sliceL_flat hdC_len zs0 os.n.toNat _ hq2 slack0
    refine rg_loadAgg rfl ?_
    skip
    refine rg_callQE rfl (fun Δ => rhead_ok q2.1 a3 a4 k3 k4 Δ) ?_
    generalize shOf q1.1 = x at *
    generalize shOf q2.1 = y at *
    refine rg_eqAgg (rs := [decide (x.height = y.height), decide (x.time = y.time), x.opn == y.opn, decide (x.nrecv = y.nrecv), decide (x.np = y.np), decide (x.na = y.na)]) rfl rfl head_under head_held head_guard ⟨eqF_int (by decide) rfl rfl, eqF_int (by decide) rfl rfl, eqF_bool (by decide) rfl rfl, eqF_int (by decide) rfl rfl, eqF_int (by decide) rfl rfl, eqF_int (by decide) rfl rfl, trivial⟩ ?_
    rw [sh_eq]
    repeat (first|refine zG rfl ?_|refine zQ ?_)
    refine ex_rete ret Try.func56 rfl (Ent.drop fin) ⟨?_, Ent.refl _⟩
    rw [e]; rfl
  · refine rg_indexArr rfl rfl (by decide) ?_
    rw [show (0 + Int.toNat 0 * 1 : Nat) = 0 from rfl]
    repeat (first|refine zA rfl ?_|refine zB rfl rfl rfl ?_|refine zC rfl ?_|refine zE rfl ?_|refine zF rfl ?_|refine zK rfl rfl ?_|refine zP rfl ?_|refine zZ rfl ?_)
    rw [show IntKind.wrap .u64 (zs0.length : Int) = zs0.length from wu_id (by omega)]
    refine rg_caseG rfl rfl (fun g5 => ?_) (fun g5 => ?_)
    · have g5 := of_decide_eq_true g5
      have e : sameRes S.s0 S.s1 0 on' 1 os.n = false := same_n1 (by rw [show headRes S.s0 S.s1 0 on' = hdRes S.s0 on' from rfl, hdRes_none (by omega)])
      repeat (first|refine zG rfl ?_|refine zK rfl rfl ?_|refine zL rfl rfl rfl rfl (by decide) trivial rfl ?_|refine zQ ?_|refine zR ?_|refine zS ?_|refine zU rfl ?_)
      refine ex_rete ret Try.func56 rfl (Ent.drop fin) ⟨?_, Ent.refl _⟩
      rw [e]; rfl
    have g5 := of_decide_eq_false g5
    repeat (first|refine zA rfl ?_|refine zC rfl ?_|refine zD rfl ?_|refine zE rfl ?_|refine zF rfl ?_)
    refine rg_indexArr rfl rfl (by decide) ?_
    rw [show (0 + Int.toNat 1 * 1 : Nat) = 1 from rfl]
    repeat (first|refine zB rfl rfl rfl ?_|refine zC rfl ?_|refine zE rfl ?_|refine zF rfl ?_|refine zK rfl rfl ?_|refine zP rfl ?_|refine zQ ?_|refine zZ rfl ?_)
    rw [show IntKind.wrap .u64 (zs1.length : Int) = zs1.length from wu_id (by omega)]
    refine ex_cond_split rfl (fun g6 => ?_) (fun g6 => ?_)
    · have g6 := of_decide_eq_true g6
      have e : sameRes S.s0 S.s1 0 on' 1 os.n = false := same_n2 (by rw [show headRes S.s0 S.s1 1 os.n = hdRes S.s1 os.n from rfl, hdRes_none (by omega)])
      repeat (first|refine zG rfl ?_|refine zQ ?_|refine zR ?_|refine zS ?_)
      refine ex_rete ret Try.func56 rfl (Ent.drop fin) ⟨?_, Ent.refl _⟩
      rw [e]; rfl
    have g6 := of_decide_eq_false g6
    obtain ⟨q1, hq1, hx1⟩ := zs_get (i := on'.toNat) ok0.heads (by omega)
    obtain ⟨q2, hq2, hx2⟩ := zs_get (i := os.n.toNat) ok1.heads (by omega)
    obtain ⟨a1, a2, k1, k2, w1⟩ := sh0 q1 (List.mem_of_getElem? hq1)
    obtain ⟨a3, a4, k3, k4, w2⟩ := sh1 q2 (List.mem_of_getElem? hq2)
    have e : sameRes S.s0 S.s1 0 on' 1 os.n = decide (shOf q1.1 = shOf q2.1) := by
      unfold sameRes
      rw [show headRes S.s0 S.s1 0 on' = hdRes S.s0 on' from rfl, show headRes S.s0 S.s1 1 os.n = hdRes S.s1 os.n from rfl, hdRes_some (by omega) hx1, hdRes_some (by omega) hx2]
      simp
    rw [w1] at hq1
    rw [w2] at hq2
    repeat (first|refine zR ?_|refine yB ?_)
    (refine rg_start_p [0, 1, 2, 3, 4, 5, 6, 7, 8, 9, 10, 11, 12, 13, 14, 15, 16, 17, 18, 19, 20, 21, 22, 23, 24, 25, 26, 27, 28, 29, 30, 31, 32] (by decide +kernel) (by decide +kernel) (by simp only [permL, List.getElem?_cons_succ, List.getElem?_cons_zero]; rfl) ?_)
    repeat (first|refine zA rfl ?_|refine zC rfl ?_|refine zD rfl ?_|refine zE rfl ?_|refine zF rfl ?_)
    refine rg_indexArr rfl rfl (by decide) ?_
    rw [show (0 + Int.toNat 0 * 1 : Nat) = 0 from rfl]
    repeat (first|refine zC rfl ?_|refine zE rfl ?_|refine zF rfl ?_)
    refine rg_indexSl rfl rfl ⟨by omega, by omega⟩ ?_
    rw [Nat.zero_add (on'.toNat * 6)]
    haveI := sliceL_flat hdC_len zs0 on'.toNat _ hq1 slack0
    refine rg_loadAgg rfl ?_
    skip
    refine rg_callQE rfl (fun Δ => rhead_ok q1.1 a1 a2 k1 k2 Δ) ?_
    repeat (first|refine zA rfl ?_|refine zC rfl ?_|refine zD rfl ?_|refine zE rfl ?_|refine zF rfl ?_)
    refine rg_indexArr rfl rfl (by decide) ?_
    rw [show (0 + Int.toNat 1 * 1 : Nat) = 1 from rfl]
    repeat (first|refine zC rfl ?_|refine zE rfl ?_|refine zF rfl ?_)
    refine rg_indexSl rfl rfl ⟨by omega, by omega⟩ ?_
    rw [Nat.zero_add (os.n.toNat * 6)]
    haveI := sliceL_flat hdC_len zs1 os.n.toNat _ hq2 slack1
    refine rg_loadAgg rfl ?_
    skip
    refine rg_callQE rfl (fun Δ => rhead_ok q2.1 a3 a4 k3 k4 Δ) ?_
    generalize shOf q1.1 = x at *
    generalize shOf q2.1 = y at *
    refine rg_eqAgg (rs := [decide (x.height = y.height), decide (x.time = y.time), x.opn == y.opn, decide (x.nrecv = y.nrecv), decide (x.np = y.np), decide (x.na = y.na)]) rfl rfl head_under head_held head_guard ⟨eqF_int (by decide) rfl rfl, eqF_int (by decide) rfl rfl, eqF_bool (by decide) rfl rfl, eqF_int (by decide) rfl rfl, eqF_int (by decide) rfl rfl, eqF_int (by decide) rfl rfl, trivial⟩ ?_
    rw [sh_eq]
    repeat (first|refine zG rfl ?_|refine zQ ?_)
    refine ex_rete ret Try.func56 rfl (Ent.drop fin) ⟨?_, Ent.refl _⟩
    rw [e]; rfl
  · refine rg_indexArr rfl rfl (by decide) ?_
    rw [show (0 + Int.toNat 1 * 1 : Nat) = 1 from rfl]
    repeat (first|refine zA rfl ?_|refine zB rfl rfl rfl ?_|refine zC rfl ?_|refine zE rfl ?_|refine zF rfl ?_|refine zK rfl rfl ?_|refine zP rfl ?_|refine zZ rfl ?_)
    rw [show IntKind.wrap .u64 (zs1.length : Int) = zs1.length from wu_id (by omega)]
    refine rg_caseG rfl rfl (fun g5 => ?_) (fun g5 => ?_)
    · have g5 := of_decide_eq_true g5
      have e : sameRes S.s0 S.s1 1 on' 0 os.n = false := same_n1 (by rw [show headRes S.s0 S.s1 1 on' = hdRes S.s1 on' from rfl, hdRes_none (by omega)])
      repeat (first|refine zG rfl ?_|refine zK rfl rfl ?_|refine zL rfl rfl rfl rfl (by decide) trivial rfl ?_|refine zQ ?_|refine zR ?_|refine zS ?_|refine zU rfl ?_)
      refine ex_rete ret Try.func56 rfl (Ent.drop fin) ⟨?_, Ent.refl _⟩
      rw [e]; rfl
    have g5 := of_decide_eq_false g5
    repeat (first|refine zA rfl ?_|refine zC rfl ?_|refine zD rfl ?_|refine zE rfl ?_|refine zF rfl ?_)
    refine rg_indexArr rfl rfl (by decide) ?_
    rw [show (0 + Int.toNat 0 * 1 : Nat) = 0 from rfl]
    repeat (first|refine zB rfl rfl rfl ?_|refine zC rfl ?_|refine zE rfl ?_|refine zF rfl ?_|refine zK rfl rfl ?_|refine zP rfl ?_|refine zQ ?_|refine zZ rfl ?_)
    rw [show IntKind.wrap .u64 (zs0.length : Int) = zs0.length from wu_id (by omega)]
    refine ex_cond_split rfl (fun g6 => ?_) (fun g6 => ?_)
    · have g6 := of_decide_eq_true g6
      have e : sameRes S.s0 S.s1 1 on' 0 os.n = false := same_n2 (by rw [show headRes S.s0 S.s1 0 os.n = hdRes S.s0 os.n from rfl, hdRes_none (by omega)])
      repeat (first|refine zG rfl ?_|refine zQ ?_|refine zR ?_|refine zS ?_)
      refine ex_rete ret Try.func56 rfl (Ent.drop fin) ⟨?_, Ent.refl _⟩
      rw [e]; rfl
    have g6 := of_decide_eq_false g6
    obtain ⟨q1, hq1, hx1⟩ := zs_get (i := on'.toNat) ok1.heads (by omega)
    obtain ⟨q2, hq2, hx2⟩ := zs_get (i := os.n.toNat) ok0.heads (by omega)
    obtain ⟨a1, a2, k1, k2, w1⟩ := sh1 q1 (List.mem_of_getElem? hq1)
    obtain ⟨a3, a4, k3, k4, w2⟩ := sh0 q2 (List.mem_of_getElem? hq2)
    have e : sameRes S.s0 S.s1 1 on' 0 os.n = decide (shOf q1.1 = shOf q2.1) := by
      unfold sameRes
      rw [show headRes S.s0 S.s1 1 on' = hdRes S.s1 on' from rfl, show headRes S.s0 S.s1 0 os.n = hdRes S.s0 os.n from rfl, hdRes_some (by omega) hx1, hdRes_some (by omega) hx2]
      simp
    rw [w1] at hq1
    rw [w2] at hq2
    repeat (first|refine zR ?_|refine yB ?_)
    (refine rg_start_p [0, 1, 2, 3, 4, 5, 6, 7, 8, 9, 10, 11, 12, 13, 14, 15, 16, 17, 18, 19, 20, 21, 22, 23, 24, 25, 26, 27, 28, 29, 30, 31, 32] (by decide +kernel) (by decide +kernel) (by simp only [permL, List.getElem?_cons_succ, List.getElem?_cons_zero]; rfl) ?_)
    repeat (first|refine zA rfl ?_|refine zC rfl ?_|refine zD rfl ?_|refine zE rfl ?_|refine zF rfl ?_)
    refine rg_indexArr rfl rfl (by decide) ?_
    rw [show (0 + Int.toNat 1 * 1 : Nat) = 1 from rfl]
    repeat (first|refine zC rfl ?_|refine zE rfl ?_|refine zF rfl ?_)
    refine rg_indexSl rfl rfl ⟨by omega, by omega⟩ ?_
    rw [Nat.zero_add (on'.toNat * 6)]
    haveI := sliceL_flat hdC_len zs1 on'.toNat _ hq1 slack1
    refine rg_loadAgg rfl ?_
    skip
    refine rg_callQE rfl (fun Δ => rhead_ok q1.1 a1 a2 k1 k2 Δ) ?_
    repeat (first|refine zA rfl ?_|refine zC rfl ?_|refine zD rfl ?_|refine zE rfl ?_|refine zF rfl ?_)
    refine rg_indexArr rfl rfl (by decide) ?_
    rw [show (0 + Int.toNat 0 * 1 : Nat) = 0 from rfl]
    repeat (first|refine zC rfl ?_|refine zE rfl ?_|refine zF rfl ?_)
    refine rg_indexSl rfl rfl ⟨by omega, by omega⟩ ?_
    rw [Nat.zero_add (os.n.toNat * 6)]
    haveI := sliceL_flat hdC_len zs0 os.n.toNat _ hq2 slack0
    refine rg_loadAgg rfl ?_
    skip
    refine rg_callQE rfl (fun Δ => rhead_ok q2.1 a3 a4 k3 k4 Δ) ?_
    generalize shOf q1.1 = x at *
    generalize shOf q2.1 = y at *
    refine rg_eqAgg (rs := [decide (x.height = y.height), decide (x.time = y.time), x.opn == y.opn, decide (x.nrecv = y.nrecv), decide (x.np = y.np), decide (x.na = y.na)]) rfl rfl head_under head_held head_guard ⟨eqF_int (by decide) rfl rfl, eqF_int (by decide) rfl rfl, eqF_bool (by decide) rfl rfl, eqF_int (by decide) rfl rfl, eqF_int (by decide) rfl rfl, eqF_int (by decide) rfl rfl, trivial⟩ ?_
    rw [sh_eq]
    repeat (first|refine zG rfl ?_|refine zQ ?_)
    refine ex_rete ret Try.func56 rfl (Ent.drop fin) ⟨?_, Ent.refl _⟩
    rw [e]; rfl
  · refine rg_indexArr rfl rfl (by decide) ?_
    rw [show (0 + Int.toNat 1 * 1 : Nat) = 1 from rfl]
    repeat (first|refine zA rfl ?_|refine zB rfl rfl rfl ?_|refine zC rfl ?_|refine zE rfl ?_|refine zF rfl ?_|refine zK rfl rfl ?_|refine zP rfl ?_|refine zZ rfl ?_)
    rw [show IntKind.wrap .u64 (zs1.length : Int) = zs1.length from wu_id (by omega)]
    refine rg_caseG rfl rfl (fun g5 => ?_) (fun g5 => ?_)
    · have g5 := of_decide_eq_true g5
      have e : sameRes S.s0 S.s1 1 on' 1 os.n = false := same_n1 (by rw [show headRes S.s0 S.s1 1 on' = hdRes S.s1 on' from rfl, hdRes_none (by omega)])
      repeat (first|refine zG rfl ?_|refine zK rfl rfl ?_|refine zL rfl rfl rfl rfl (by decide) trivial rfl ?_|refine zQ ?_|refine zR ?_|refine zS ?_|refine zU rfl ?_)
      refine ex_rete ret Try.func56 rfl (Ent.drop fin) ⟨?_, Ent.refl _⟩
      rw [e]; rfl
    have g5 := of_decide_eq_false g5
    repeat (first|refine zA rfl ?_|refine zC rfl ?_|refine zD rfl ?_|refine zE rfl ?_|refine zF rfl ?_)
    refine rg_indexArr rfl rfl (by decide) ?_
    rw [show (0 + Int.toNat 1 * 1 : Nat) = 1 from rfl]
    repeat (first|refine zB rfl rfl rfl ?_|refine zC rfl ?_|refine zE rfl ?_|refine zF rfl ?_|refine zK rfl rfl ?_|refine zP rfl ?_|refine zQ ?_|refine zZ rfl ?_)
    rw [show IntKind.wrap .u64 (zs1.length : Int) = zs1.length from wu_id (by omega)]
    refine ex_cond_split rfl (fun g6 => ?_) (fun g6 => ?_)
    · have g6 := of_decide_eq_true g6
      have e : sameRes S.s0 S.s1 1 on' 1 os.n = false := same_n2 (by rw [show headRes S.s0 S.s1 1 os.n = hdRes S.s1 os.n from rfl, hdRes_none (by omega)])
      repeat (first|refine zG rfl ?_|refine zQ ?_|refine zR ?_|refine zS ?_)
      refine ex_rete ret Try.func56 rfl (Ent.drop fin) ⟨?_, Ent.refl _⟩
      rw [e]; rfl
    have g6 := of_decide_eq_false g6
    obtain ⟨q1, hq1, hx1⟩ := zs_get (i := on'.toNat) ok1.heads (by omega)
    obtain ⟨q2, hq2, hx2⟩ := zs_get (i := os.n.toNat) ok1.heads (by omega)
    obtain ⟨a1, a2, k1, k2, w1⟩ := sh1 q1 (List.mem_of_getElem? hq1)
    obtain ⟨a3, a4, k3, k4, w2⟩ := sh1 q2 (List.mem_of_getElem? hq2)
    have e : sameRes S.s0 S.s1 1 on' 1 os.n = decide (shOf q1.1 = shOf q2.1) := by
      unfold sameRes
      rw [show headRes S.s0 S.s1 1 on' = hdRes S.s1 on' from rfl, show headRes S.s0 S.s1 1 os.n = hdRes S.s1 os.n from rfl, hdRes_some (by omega) hx1, hdRes_some (by omega) hx2]
      simp
    rw [w1] at hq1
    rw [w2] at hq2
    repeat (first|refine zR ?_|refine yB ?_)
    (refine rg_start_p [0, 1, 2, 3, 4, 5, 6, 7, 8, 9, 10, 11, 12, 13, 14, 15, 16, 17, 18, 19, 20, 21, 22, 23, 24, 25, 26, 27, 28, 29, 30, 31, 32] (by decide +kernel) (by decide +kernel) (by simp only [permL, List.getElem?_cons_succ, List.getElem?_cons_zero]; rfl) ?_)
    repeat (first|refine zA rfl ?_|refine zC rfl ?_|refine zD rfl ?_|refine zE rfl ?_|refine zF rfl ?_)
    refine rg_indexArr rfl rfl (by decide) ?_
    rw [show (0 + Int.toNat 1 * 1 : Nat) = 1 from rfl]
    repeat (first|refine zC rfl ?_|refine zE rfl ?_|refine zF rfl ?_)
    refine rg_indexSl rfl rfl ⟨by omega, by omega⟩ ?_
    rw [Nat.zero_add (on'.toNat * 6)]
    haveI := sliceL_flat hdC_len zs1 on'.toNat _ hq1 slack1
    refine rg_loadAgg rfl ?_
    skip
    refine rg_callQE rfl (fun Δ => rhead_ok q1.1 a1 a2 k1 k2 Δ) ?_
    repeat (first|refine zA rfl ?_|refine zC rfl ?_|refine zD rfl ?_|refine zE rfl ?_|refine zF rfl ?_)
    refine rg_indexArr rfl rfl (by decide) ?_
    rw [show (0 + Int.toNat 1 * 1 : Nat) = 1 from rfl]
    repeat (first|refine zC rfl ?_|refine zE rfl ?_|refine zF rfl ?_)
    refine rg_indexSl rfl rfl ⟨by omega, by omega⟩ ?_
    rw [Nat.zero_add (os.n.toNat * 6)]
    haveI := sliceL_flat hdC_len zs1 os.n.toNat _ hq2 slack1
    refine rg_loadAgg rfl ?_
    skip
    refine rg_callQE rfl (fun Δ => rhead_ok q2.1 a3 a4 k3 k4 Δ) ?_
    generalize shOf q1.1 = x at *
    generalize shOf q2.1 = y at *
    refine rg_eqAgg (rs := [decide (x.height = y.height), decide (x.time = y.time), x.opn == y.opn, decide (x.nrecv = y.nrecv), decide (x.np = y.np), decide (x.na = y.na)]) rfl rfl head_under head_held head_guard ⟨eqF_int (by decide) rfl rfl, eqF_int (by decide) rfl rfl, eqF_bool (by decide) rfl rfl, eqF_int (by decide) rfl rfl, eqF_int (by decide) rfl rfl, eqF_int (by decide) rfl rfl, trivial⟩ ?_
    rw [sh_eq]
    repeat (first|refine zG rfl ?_|refine zQ ?_)
    refine ex_rete ret Try.func56 rfl (Ent.drop fin) ⟨?_, Ent.refl _⟩
    rw [e]; rfl

end Go.Br
