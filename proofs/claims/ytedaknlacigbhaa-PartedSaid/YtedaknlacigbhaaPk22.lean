/-
  Lemmas towards the law, proved without conditions of their own: KEEP: total: of each coin what accounts have, and is under way.
-/
import Derived.Test.YtedaknlacigbhaaPk21
namespace Go.Br
open Go Go.Lx Go.Proofs
open Go.Lx renaming rg_move → zA, rg_int → zB, rg_nilCheck → zC, rg_fieldAddr0 → zD, rg_fieldAddr → zE, rg_load → zF, rg_assign → zG, rg_loadAgg → zH, rg_extract → zI, rg_not → zJ, rg_pick → zK, rg_off → zL, rg_offU → zM, rg_store → zN, rg_storeAgg → zO, rg_convInt → zP, rg_done → zQ, ex_seq → zR, rg_start_s → zS, rg_start_d → zT, ex_cond_true → zU, ex_cond_false → zV, rg_alloc → zW, rg_boxAgg → zX, rg_build → zY, rg_lenSl → zZ, rg_lenMap → yA, ex_skip → yB, ex_block → yC, ex_inBlock → yD, ex_exit → yE, rg_caseG → yZ
set_option maxRecDepth 100000

theorem fl1_get {α : Type} {f : α → List Value} {g : α → Value} (hf : ∀ a, f a = [g a]) (l : List α) (i : Nat) (h : i < l.length) (slack : List Value) : (l.flatMap f ++ slack)[i]? = some (g l[i]) := by
  have e : l.flatMap f = l.map g := by
    clear h
    induction l with
    | nil => rfl
    | cons a l ih => simp only [List.flatMap_cons, List.map_cons, hf, ih, List.singleton_append]
  rw [e, List.getElem?_append_left (by simpa using h), List.getElem?_map, List.getElem?_eq_getElem h]; rfl

set_option maxHeartbeats 16000000 in
theorem total_ok (w : Nat) (S : Bg) (r0 r1 : List Rec) (B : Nat) (Γ : List Ch) (k : KOk B S r0 r1) (hB : B < 100000000) :
    CallsX Try.prog 36 #[ptrV w] (.pr (KwAt w S r0 r1) :: Γ) (fun v Δ => v = .agg ⟨[.int .u64 3000, .int .u64 3000]⟩ ∧ Ent Δ (.pr (KwAt w S r0 r1) :: Γ)) := by
  have hlen := k.len
  have hok := k.ok
  have hp0 := fun u X => (k.link.mon.pos u X).1
  have hp1 := fun u X => (k.link.mon.pos u X).2
  have ht := fun X hX => k.link.mon.tot X hX
  have hr0 : ∀ x ∈ r0, 0 ≤ x.p.amount := fun x hx => by have := k.link.ds.amt x hx; omega
  have hr1 : ∀ x ∈ r1, 0 ≤ x.p.amount := fun x hx => by have := k.link.dr.amt x hx; omega
  unfold hasSum at ht
  refine CallsX.open_ kw_open fun z _ => ?_
  obtain ⟨b, v⟩ := z
  obtain ⟨sv0, sv1, av0, av1, pv0, pv1⟩ := v
  dsimp only [kwL]
  refine calls_of_body (args := [ptrV w]) Try.func36 rfl Try.ntmps36 fun X cs ret => ?_
  (refine Ex.front 1 ?_)
  refine Ex.open_ (slp_shapeO (p := true)) fun q hq => ?_
  obtain ⟨xa0, xc0⟩ := q
  dsimp only at hq
  subst hq
  (refine Ex.front 2 ?_)
  refine Ex.open_ (slp_shapeO (p := true)) fun q hq => ?_
  obtain ⟨xa1, xc1⟩ := q
  dsimp only at hq
  subst hq
  (refine Ex.front 0 ?_; refine Ex.front 1 ?_; refine Ex.front 2 ?_)
  refine ex_seq (rg_start_s (rg_alloc fun br => ?_))
  repeat (first|refine zA rfl ?_|refine zQ ?_|refine zR ?_|refine zS ?_|refine zW fun bl=>?_|refine yC ?_)
  obtain ⟨bo, hbo⟩ : ∃ x, x = bl := ⟨_, rfl⟩
  subst hbo
  refine ex_loop ?_
  repeat (first|refine zA rfl ?_|refine zB rfl rfl rfl ?_|refine zG rfl ?_|refine zQ ?_|refine zR ?_|refine zS ?_|refine zU rfl ?_|refine yB ?_|refine yC ?_)
  refine ex_loop ?_
  repeat (first|refine zA rfl ?_|refine zB rfl rfl rfl ?_|refine zG rfl ?_|refine zQ ?_|refine zR ?_|refine zS ?_|refine zU rfl ?_|refine yB ?_|refine yC ?_)
  refine ex_loop ?_
  repeat (first|refine zA rfl ?_|refine zB rfl rfl rfl ?_|refine zG rfl ?_|refine zQ ?_|refine zR ?_|refine zS ?_|refine zT (by decide+kernel) (by decide+kernel) ?_|refine zU rfl ?_|refine yB ?_|refine yC ?_)
  refine rg_indexArr rfl rfl (by decide) ?_
  rw [show (0 + Int.toNat 0 * 1 : Nat) = 0 from rfl]
  repeat (first|refine zA rfl ?_|refine zC rfl ?_|refine zD rfl ?_|refine zF rfl ?_)
  (refine Rg.front 8 ?_; refine Rg.front 8 ?_; refine Rg.front 8 ?_; refine Rg.front 8 ?_; refine Rg.front 8 ?_; refine Rg.front 8 ?_; refine Rg.front 8 ?_; refine Rg.front 8 ?_; refine Rg.front 8 ?_; refine Rg.front 9 ?_)
  refine rg_callE rfl (Balance_bg b S 0 0 0 B _ hok hB) ?_
  refine ⟨.inr (by (repeat' first | exact trivial | refine ⟨.inr ⟨_, _, _, _, Find.mem, rfl⟩, ?_⟩ | refine ⟨.inr ⟨_, _, _, _, Find.mem, inferInstance⟩, ?_⟩ | refine ⟨.inr ⟨_, Find.mem⟩, ?_⟩ | refine ⟨.inl (by decide +kernel), ?_⟩)), ?_⟩
  (refine Rg.front 0 ?_; refine Rg.front 9 ?_; refine Rg.front 9 ?_; refine Rg.front 9 ?_; refine Rg.front 9 ?_; refine Rg.front 9 ?_; refine Rg.front 9 ?_; refine Rg.front 9 ?_; refine Rg.front 9 ?_; refine Rg.front 9 ?_)
  repeat refine zB rfl rfl rfl ?_
  refine rg_indexArr rfl rfl (by decide) ?_
  rw [show (0 + Int.toNat 0 * 1 : Nat) = 0 from rfl]
  rw [show IntKind.wrap .u64 (0 + bgBal S 0 0 0) = 0 + S.s0.has 0 0 from wu_id (by have e1 := hp0 0 0; have e2 := ht 0 (by decide); have z0 := hp0 0 0; have z1 := hp0 1 0; have z2 := hp0 2 0; have y0 := hp1 0 0; have y1 := hp1 1 0; have y2 := hp1 2 0; have w0 := under_take_le 0 r0 hr0 0; have w1 := under_take_le 0 r1 hr1 0; show 0 ≤ 0 + S.s0.has 0 0 ∧ 0 + S.s0.has 0 0 < _; omega)]
  repeat (first|refine zA rfl ?_|refine zB rfl rfl rfl ?_|refine zN rfl rfl ?_|refine zQ ?_|refine zS ?_|refine yD ?_)
  rw [show IntKind.wrap .i64 (0 + 1) = 1 from by decide]
  refine ex_inLoop ?_
  repeat (first|refine zA rfl ?_|refine zB rfl rfl rfl ?_|refine zG rfl ?_|refine zQ ?_|refine zR ?_|refine zS ?_|refine zT (by decide+kernel) (by decide+kernel) ?_|refine zU rfl ?_|refine yB ?_|refine yC ?_)
  refine rg_indexArr rfl rfl (by decide) ?_
  rw [show (0 + Int.toNat 0 * 1 : Nat) = 0 from rfl]
  repeat (first|refine zA rfl ?_|refine zC rfl ?_|refine zD rfl ?_|refine zF rfl ?_)
  (refine Rg.front 8 ?_; refine Rg.front 8 ?_; refine Rg.front 8 ?_; refine Rg.front 8 ?_; refine Rg.front 8 ?_; refine Rg.front 8 ?_; refine Rg.front 8 ?_; refine Rg.front 8 ?_; refine Rg.front 8 ?_; refine Rg.front 9 ?_)
  refine rg_callE rfl (Balance_bg b S 0 1 0 B _ hok hB) ?_
  refine ⟨.inr (by (repeat' first | exact trivial | refine ⟨.inr ⟨_, _, _, _, Find.mem, rfl⟩, ?_⟩ | refine ⟨.inr ⟨_, _, _, _, Find.mem, inferInstance⟩, ?_⟩ | refine ⟨.inr ⟨_, Find.mem⟩, ?_⟩ | refine ⟨.inl (by decide +kernel), ?_⟩)), ?_⟩
  (refine Rg.front 0 ?_; refine Rg.front 9 ?_; refine Rg.front 9 ?_; refine Rg.front 9 ?_; refine Rg.front 9 ?_; refine Rg.front 9 ?_; refine Rg.front 9 ?_; refine Rg.front 9 ?_; refine Rg.front 9 ?_; refine Rg.front 9 ?_)
  repeat refine zB rfl rfl rfl ?_
  refine rg_indexArr rfl rfl (by decide) ?_
  rw [show (0 + Int.toNat 0 * 1 : Nat) = 0 from rfl]
  rw [show IntKind.wrap .u64 (0 + S.s0.has 0 0 + bgBal S 0 1 0) = 0 + S.s0.has 0 0 + S.s0.has 1 0 from wu_id (by have e1 := hp0 1 0; have e2 := ht 0 (by decide); have z0 := hp0 0 0; have z1 := hp0 1 0; have z2 := hp0 2 0; have y0 := hp1 0 0; have y1 := hp1 1 0; have y2 := hp1 2 0; have w0 := under_take_le 0 r0 hr0 0; have w1 := under_take_le 0 r1 hr1 0; show 0 ≤ 0 + S.s0.has 0 0 + S.s0.has 1 0 ∧ 0 + S.s0.has 0 0 + S.s0.has 1 0 < _; omega)]
  repeat (first|refine zA rfl ?_|refine zB rfl rfl rfl ?_|refine zN rfl rfl ?_|refine zQ ?_|refine zS ?_|refine yD ?_)
  rw [show IntKind.wrap .i64 (1 + 1) = 2 from by decide]
  refine ex_inLoop ?_
  repeat (first|refine zA rfl ?_|refine zB rfl rfl rfl ?_|refine zG rfl ?_|refine zQ ?_|refine zR ?_|refine zS ?_|refine zT (by decide+kernel) (by decide+kernel) ?_|refine zU rfl ?_|refine yB ?_|refine yC ?_)
  refine rg_indexArr rfl rfl (by decide) ?_
  rw [show (0 + Int.toNat 0 * 1 : Nat) = 0 from rfl]
  repeat (first|refine zA rfl ?_|refine zC rfl ?_|refine zD rfl ?_|refine zF rfl ?_)
  (refine Rg.front 8 ?_; refine Rg.front 8 ?_; refine Rg.front 8 ?_; refine Rg.front 8 ?_; refine Rg.front 8 ?_; refine Rg.front 8 ?_; refine Rg.front 8 ?_; refine Rg.front 8 ?_; refine Rg.front 8 ?_; refine Rg.front 9 ?_)
  refine rg_callE rfl (Balance_bg b S 0 2 0 B _ hok hB) ?_
  refine ⟨.inr (by (repeat' first | exact trivial | refine ⟨.inr ⟨_, _, _, _, Find.mem, rfl⟩, ?_⟩ | refine ⟨.inr ⟨_, _, _, _, Find.mem, inferInstance⟩, ?_⟩ | refine ⟨.inr ⟨_, Find.mem⟩, ?_⟩ | refine ⟨.inl (by decide +kernel), ?_⟩)), ?_⟩
  (refine Rg.front 0 ?_; refine Rg.front 9 ?_; refine Rg.front 9 ?_; refine Rg.front 9 ?_; refine Rg.front 9 ?_; refine Rg.front 9 ?_; refine Rg.front 9 ?_; refine Rg.front 9 ?_; refine Rg.front 9 ?_; refine Rg.front 9 ?_)
  repeat refine zB rfl rfl rfl ?_
  refine rg_indexArr rfl rfl (by decide) ?_
  rw [show (0 + Int.toNat 0 * 1 : Nat) = 0 from rfl]
  rw [show IntKind.wrap .u64 (0 + S.s0.has 0 0 + S.s0.has 1 0 + bgBal S 0 2 0) = 0 + S.s0.has 0 0 + S.s0.has 1 0 + S.s0.has 2 0 from wu_id (by have e1 := hp0 2 0; have e2 := ht 0 (by decide); have z0 := hp0 0 0; have z1 := hp0 1 0; have z2 := hp0 2 0; have y0 := hp1 0 0; have y1 := hp1 1 0; have y2 := hp1 2 0; have w0 := under_take_le 0 r0 hr0 0; have w1 := under_take_le 0 r1 hr1 0; show 0 ≤ 0 + S.s0.has 0 0 + S.s0.has 1 0 + S.s0.has 2 0 ∧ 0 + S.s0.has 0 0 + S.s0.has 1 0 + S.s0.has 2 0 < _; omega)]
  repeat (first|refine zA rfl ?_|refine zB rfl rfl rfl ?_|refine zN rfl rfl ?_|refine zQ ?_|refine zS ?_|refine yD ?_)
  rw [show IntKind.wrap .i64 (2 + 1) = 3 from by decide]
  refine ex_inLoop ?_
  repeat (first|refine zA rfl ?_|refine zB rfl rfl rfl ?_|refine zC rfl ?_|refine zE rfl ?_|refine zQ ?_|refine zR ?_|refine zS ?_|refine zV rfl ?_|refine yE rfl ?_)
  refine rg_indexArr rfl rfl (by decide) ?_
  rw [show (0 + 1 + Int.toNat 0 * 1 : Nat) = 1 from rfl]
  repeat (first|refine zA rfl ?_|refine zF rfl ?_|refine zQ ?_|refine zZ rfl ?_|refine yC ?_)
  refine ex_loop ?_
  refine ex_ind (ι := Nat) (fun i => r0.length + 1 - i) (fun i => [(39, .int .i64 i), (38, .int .i64 r0.length), (37, .slice xa0 r0.length xc0), (4, .int .i64 0), (5, .int .i64 0), (3, ptrV bo), (2, ptrV br), (0, ptrV w), (9, .int .i64 0), (12, .int .i64 0)]) (fun i => .pt bo true (.cells ⟨[.int .u64 (0 + S.s0.has 0 0 + S.s0.has 1 0 + S.s0.has 2 0 + under 0 (r0.take i)), .int .u64 0]⟩ 66 (0, 0)) :: .pt br true (.cells ⟨[.int .u64 0, .int .u64 0]⟩ 66 (0, 0)) :: kwL w b ⟨.slice xa0 r0.length xc0, .slice xa1 r1.length xc1, av0, av1, pv0, pv1⟩ S r0 r1 Γ)
    (fun i => i ≤ r0.length) 0 (Nat.zero_le _) ⟨rfl, rfl, rfl, rfl, rfl, rfl, rfl, rfl, rfl, rfl, trivial⟩ (by rw [List.take_zero, show under 0 [] = 0 from rfl, Int.add_zero]; try rfl) (fun i hi IH => ?_)
  repeat (first|refine zB rfl rfl rfl ?_|refine zQ ?_|refine zR ?_|refine zS ?_)
  refine ex_cond_split rfl (fun h1 => ?_) (fun h1 => ?_)
  · have hlt : i < r0.length := by have := of_decide_eq_true h1; omega
    repeat (first|refine zR ?_|refine yB ?_|refine yC ?_)
    (refine Ex.front 3 ?_)
    refine ex_slp (p := true) (fun _ _ h => absurd h (by omega)) (fun bs scap sls hs hzs => ?_)
    simp only [Value.slice.injEq, true_and] at hs
    obtain ⟨rfl, rfl⟩ := hs
    (refine Ex.front 5 ?_)
    refine ex_slp (p := true) (fun _ _ h => absurd h (by omega)) (fun ba acap sla hs hza => ?_)
    subst hs
    (refine Ex.front 7 ?_)
    refine ex_slp (p := true) (fun _ _ h => absurd h (by omega)) (fun bp pcap slp hs hzp => ?_)
    subst hs
    repeat (first|refine zA rfl ?_|refine zS ?_)
    refine rg_indexSl rfl rfl ⟨by omega, by omega⟩ ?_
    rw [Int.toNat_natCast, Nat.zero_add (i * 7)]
    haveI := sliceL_flatK rpC_len r0 i hlt sls
    refine rg_loadAgg rfl ?_
    repeat (first|refine zA rfl ?_|refine zB rfl rfl rfl ?_|refine zE rfl ?_|refine zF rfl ?_|refine zG rfl ?_|refine zO rfl rfl ?_|refine zQ ?_|refine zR ?_|refine zS ?_|refine zW fun bl=>?_)
    refine rg_caseG rfl rfl (fun g1 => ?_) (fun g1 => ?_)
    · have g1 : r0[i].p.coin = 0 := of_decide_eq_true g1
      repeat (first|refine zA rfl ?_|refine zC rfl ?_|refine zE rfl ?_)
      refine rg_indexArr rfl rfl (by decide) ?_
      rw [show (0 + 5 + Int.toNat 0 * 1 : Nat) = 5 from rfl]
      repeat (first|refine zA rfl ?_|refine zF rfl ?_)
      refine rg_indexSl rfl rfl ⟨by omega, by omega⟩ ?_
      refine rg_load rfl ?_ (by rw [Int.toNat_natCast, Nat.zero_add, Nat.mul_one]; exact fl1_get (g := fun x => .bool x.pend) (fun _ => rfl) r0 i hlt slp)
      repeat (first|refine zA rfl ?_|refine zK rfl rfl ?_)
      refine rg_caseG rfl rfl (fun g2 => ?_) (fun g2 => ?_)
      · repeat (first|refine zA rfl ?_|refine zC rfl ?_|refine zE rfl ?_)
        refine rg_indexArr rfl rfl (by decide) ?_
        rw [show (0 + 3 + Int.toNat 0 * 1 : Nat) = 3 from rfl]
        repeat (first|refine zA rfl ?_|refine zF rfl ?_)
        refine rg_indexSl rfl rfl ⟨by omega, by omega⟩ ?_
        refine rg_load rfl ?_ (by rw [Int.toNat_natCast, Nat.zero_add, Nat.mul_one]; exact fl1_get (g := fun x => .int .i64 x.ans) (fun _ => rfl) r0 i hlt sla)
        repeat (first|refine zB rfl rfl rfl ?_|refine zK rfl rfl ?_|refine zQ ?_)
        refine ex_cond_split rfl (fun g3 => ?_) (fun g3 => ?_)
        · have g3 : ¬ r0[i].ans = 1 := by simpa using g3
          repeat (first|refine zA rfl ?_|refine zT (by decide+kernel) (by decide+kernel) ?_)
          refine rg_indexArr rfl rfl (by decide) ?_
          rw [show (0 + Int.toNat 0 * 1 : Nat) = 0 from rfl]
          repeat (first|refine zB rfl rfl rfl ?_|refine zE rfl ?_|refine zF rfl ?_)
          refine rg_indexArr rfl rfl (by decide) ?_
          rw [show (0 + Int.toNat 0 * 1 : Nat) = 0 from rfl]
          have hwt := wt_cases 0 r0[i] g1 g2 g3
          rw [show IntKind.wrap .u64 (0 + S.s0.has 0 0 + S.s0.has 1 0 + S.s0.has 2 0 + under 0 (r0.take i) + r0[i].p.amount) = 0 + S.s0.has 0 0 + S.s0.has 1 0 + S.s0.has 2 0 + under 0 (r0.take i) + r0[i].p.amount from wu_id (by have e2 := ht 0 (by decide); have z0 := hp0 0 0; have z1 := hp0 1 0; have z2 := hp0 2 0; have y0 := hp1 0 0; have y1 := hp1 1 0; have y2 := hp1 2 0; have w0 := under_take_le 0 r0 hr0 0; have w1 := under_take_le 0 r1 hr1 0; have w2 := under_take_le 0 r0 hr0 i; have w3 := under_take_le 0 r0 hr0 (i + 1); have w4 := under_take 0 r0 i hlt; show 0 ≤ 0 + S.s0.has 0 0 + S.s0.has 1 0 + S.s0.has 2 0 + under 0 (r0.take i) + r0[i].p.amount ∧ 0 + S.s0.has 0 0 + S.s0.has 1 0 + S.s0.has 2 0 + under 0 (r0.take i) + r0[i].p.amount < _; omega)]
          repeat (first|refine zN rfl rfl ?_|refine zQ ?_|refine yD ?_)
          (refine Ex.front 10 ?_; refine Ex.front 10 ?_; refine Ex.front 10 ?_; refine Ex.front 10 ?_; refine Ex.front 10 ?_; refine Ex.front 10 ?_; refine Ex.front 10 ?_; refine Ex.front 9 ?_; refine Ex.front 9 ?_; refine Ex.front 10 ?_; refine Ex.front 10 ?_)
          refine Ex.drop (Ex.ent (EntR.e (slp_fold bs xc0 sls hzs)) ?_)
          (refine Ex.front 9 ?_; refine Ex.front 9 ?_; refine Ex.front 9 ?_; refine Ex.front 9 ?_; refine Ex.front 9 ?_; refine Ex.front 9 ?_; refine Ex.front 9 ?_; refine Ex.front 7 ?_; refine Ex.front 9 ?_; refine Ex.front 9 ?_)
          refine Ex.ent (EntR.e (slp_fold bp pcap slp hzp)) ?_
          (refine Ex.front 9 ?_; refine Ex.front 9 ?_; refine Ex.front 9 ?_; refine Ex.front 9 ?_; refine Ex.front 9 ?_; refine Ex.front 9 ?_; refine Ex.front 9 ?_; refine Ex.front 9 ?_; refine Ex.front 8 ?_; refine Ex.front 9 ?_)
          refine Ex.ent (EntR.e (slp_fold ba acap sla hza)) ?_
          (refine Ex.front 9 ?_; refine Ex.front 9 ?_; refine Ex.front 3 ?_; refine Ex.front 9 ?_; refine Ex.front 4 ?_; refine Ex.front 9 ?_; refine Ex.front 6 ?_; refine Ex.front 9 ?_; refine Ex.front 9 ?_; refine Ex.front 9 ?_)
          repeat (first|refine zA rfl ?_|refine zB rfl rfl rfl ?_|refine zQ ?_|refine zS ?_)
          refine ex_inLoop ?_
          rw [rwrap (x := (i : Int) + 1) (by omega)]
          have hu := under_take 0 r0 i hlt
          rw [hwt] at hu
          have IH' := IH (i + 1) hlt (by omega)
          rw [hu] at IH'

          rw [← Int.add_assoc] at IH'
          exact Ex.sup IH' ⟨rfl, rfl, rfl, rfl, rfl, rfl, rfl, rfl, rfl, rfl, trivial⟩

        · have g3 : r0[i].ans = 1 := by simpa using g3
          repeat (first|refine yB ?_|refine yD ?_)
          (refine Ex.front 10 ?_; refine Ex.front 10 ?_; refine Ex.front 10 ?_; refine Ex.front 10 ?_; refine Ex.front 10 ?_; refine Ex.front 10 ?_; refine Ex.front 10 ?_; refine Ex.front 9 ?_; refine Ex.front 9 ?_; refine Ex.front 10 ?_; refine Ex.front 10 ?_)
          refine Ex.drop (Ex.ent (EntR.e (slp_fold bs xc0 sls hzs)) ?_)
          (refine Ex.front 9 ?_; refine Ex.front 9 ?_; refine Ex.front 9 ?_; refine Ex.front 9 ?_; refine Ex.front 9 ?_; refine Ex.front 9 ?_; refine Ex.front 9 ?_; refine Ex.front 7 ?_; refine Ex.front 9 ?_; refine Ex.front 9 ?_)
          refine Ex.ent (EntR.e (slp_fold bp pcap slp hzp)) ?_
          (refine Ex.front 9 ?_; refine Ex.front 9 ?_; refine Ex.front 9 ?_; refine Ex.front 9 ?_; refine Ex.front 9 ?_; refine Ex.front 9 ?_; refine Ex.front 9 ?_; refine Ex.front 9 ?_; refine Ex.front 8 ?_; refine Ex.front 9 ?_)
          refine Ex.ent (EntR.e (slp_fold ba acap sla hza)) ?_
          (refine Ex.front 9 ?_; refine Ex.front 9 ?_; refine Ex.front 3 ?_; refine Ex.front 9 ?_; refine Ex.front 4 ?_; refine Ex.front 9 ?_; refine Ex.front 6 ?_; refine Ex.front 9 ?_; refine Ex.front 9 ?_; refine Ex.front 9 ?_)
          repeat (first|refine zA rfl ?_|refine zB rfl rfl rfl ?_|refine zQ ?_|refine zS ?_)
          refine ex_inLoop ?_
          rw [rwrap (x := (i : Int) + 1) (by omega)]
          have hu := under_take 0 r0 i hlt
          rw [wt_zero3 0 r0[i] g3] at hu
          have IH' := IH (i + 1) hlt (by omega)
          rw [hu] at IH'
          rw [Int.add_zero] at IH'
          skip
          exact Ex.sup IH' ⟨rfl, rfl, rfl, rfl, rfl, rfl, rfl, rfl, rfl, rfl, trivial⟩

      · have g2 : r0[i].pend = false := g2
        repeat (first|refine zK rfl rfl ?_|refine zL rfl rfl rfl rfl (by decide) trivial rfl ?_|refine zQ ?_|refine zV rfl ?_|refine yB ?_|refine yD ?_)
        (refine Ex.front 10 ?_; refine Ex.front 10 ?_; refine Ex.front 10 ?_; refine Ex.front 10 ?_; refine Ex.front 10 ?_; refine Ex.front 10 ?_; refine Ex.front 10 ?_; refine Ex.front 9 ?_; refine Ex.front 9 ?_; refine Ex.front 10 ?_; refine Ex.front 10 ?_)
        refine Ex.drop (Ex.ent (EntR.e (slp_fold bs xc0 sls hzs)) ?_)
        (refine Ex.front 9 ?_; refine Ex.front 9 ?_; refine Ex.front 9 ?_; refine Ex.front 9 ?_; refine Ex.front 9 ?_; refine Ex.front 9 ?_; refine Ex.front 9 ?_; refine Ex.front 7 ?_; refine Ex.front 9 ?_; refine Ex.front 9 ?_)
        refine Ex.ent (EntR.e (slp_fold bp pcap slp hzp)) ?_
        (refine Ex.front 9 ?_; refine Ex.front 9 ?_; refine Ex.front 9 ?_; refine Ex.front 9 ?_; refine Ex.front 9 ?_; refine Ex.front 9 ?_; refine Ex.front 9 ?_; refine Ex.front 9 ?_; refine Ex.front 8 ?_; refine Ex.front 9 ?_)
        refine Ex.ent (EntR.e (slp_fold ba acap sla hza)) ?_
        (refine Ex.front 9 ?_; refine Ex.front 9 ?_; refine Ex.front 3 ?_; refine Ex.front 9 ?_; refine Ex.front 4 ?_; refine Ex.front 9 ?_; refine Ex.front 6 ?_; refine Ex.front 9 ?_; refine Ex.front 9 ?_; refine Ex.front 9 ?_)
        repeat (first|refine zA rfl ?_|refine zB rfl rfl rfl ?_|refine zQ ?_|refine zS ?_)
        refine ex_inLoop ?_
        rw [rwrap (x := (i : Int) + 1) (by omega)]
        have hu := under_take 0 r0 i hlt
        rw [wt_zero2 0 r0[i] g2] at hu
        have IH' := IH (i + 1) hlt (by omega)
        rw [hu] at IH'
        rw [Int.add_zero] at IH'
        skip
        exact Ex.sup IH' ⟨rfl, rfl, rfl, rfl, rfl, rfl, rfl, rfl, rfl, rfl, trivial⟩

    · have g1 : ¬ r0[i].p.coin = 0 := of_decide_eq_false g1
      repeat (first|refine zA rfl ?_|refine zK rfl rfl ?_|refine zL rfl rfl rfl rfl (by decide) trivial rfl ?_|refine zQ ?_|refine zV rfl ?_|refine yB ?_|refine yD ?_)
      (refine Ex.front 10 ?_; refine Ex.front 10 ?_; refine Ex.front 10 ?_; refine Ex.front 10 ?_; refine Ex.front 10 ?_; refine Ex.front 10 ?_; refine Ex.front 10 ?_; refine Ex.front 9 ?_; refine Ex.front 9 ?_; refine Ex.front 10 ?_; refine Ex.front 10 ?_)
      refine Ex.drop (Ex.ent (EntR.e (slp_fold bs xc0 sls hzs)) ?_)
      (refine Ex.front 9 ?_; refine Ex.front 9 ?_; refine Ex.front 9 ?_; refine Ex.front 9 ?_; refine Ex.front 9 ?_; refine Ex.front 9 ?_; refine Ex.front 9 ?_; refine Ex.front 7 ?_; refine Ex.front 9 ?_; refine Ex.front 9 ?_)
      refine Ex.ent (EntR.e (slp_fold bp pcap slp hzp)) ?_
      (refine Ex.front 9 ?_; refine Ex.front 9 ?_; refine Ex.front 9 ?_; refine Ex.front 9 ?_; refine Ex.front 9 ?_; refine Ex.front 9 ?_; refine Ex.front 9 ?_; refine Ex.front 9 ?_; refine Ex.front 8 ?_; refine Ex.front 9 ?_)
      refine Ex.ent (EntR.e (slp_fold ba acap sla hza)) ?_
      (refine Ex.front 9 ?_; refine Ex.front 9 ?_; refine Ex.front 3 ?_; refine Ex.front 9 ?_; refine Ex.front 4 ?_; refine Ex.front 9 ?_; refine Ex.front 6 ?_; refine Ex.front 9 ?_; refine Ex.front 9 ?_; refine Ex.front 9 ?_)
      repeat (first|refine zA rfl ?_|refine zB rfl rfl rfl ?_|refine zQ ?_|refine zS ?_)
      refine ex_inLoop ?_
      rw [rwrap (x := (i : Int) + 1) (by omega)]
      have hu := under_take 0 r0 i hlt
      rw [wt_zero1 0 r0[i] g1] at hu
      have IH' := IH (i + 1) hlt (by omega)
      rw [hu] at IH'
      rw [Int.add_zero] at IH'
      skip
      exact Ex.sup IH' ⟨rfl, rfl, rfl, rfl, rfl, rfl, rfl, rfl, rfl, rfl, trivial⟩

  have hge : i = r0.length := by have := of_decide_eq_false h1; omega
  subst hge
  rw [List.take_length]
  repeat (first|refine zA rfl ?_|refine zB rfl rfl rfl ?_|refine zQ ?_|refine zS ?_|refine yD ?_|refine yE rfl ?_)
  rw [show IntKind.wrap .i64 (0 + 1) = 1 from by decide]
  refine ex_inLoop ?_
  repeat (first|refine zA rfl ?_|refine zB rfl rfl rfl ?_|refine zG rfl ?_|refine zQ ?_|refine zR ?_|refine zS ?_|refine zU rfl ?_|refine yB ?_|refine yC ?_)
  refine ex_loop ?_
  repeat (first|refine zA rfl ?_|refine zB rfl rfl rfl ?_|refine zG rfl ?_|refine zQ ?_|refine zR ?_|refine zS ?_|refine zT (by decide+kernel) (by decide+kernel) ?_|refine zU rfl ?_|refine yB ?_|refine yC ?_)
  refine rg_indexArr rfl rfl (by decide) ?_
  rw [show (0 + Int.toNat 0 * 1 : Nat) = 0 from rfl]
  repeat (first|refine zA rfl ?_|refine zC rfl ?_|refine zD rfl ?_|refine zF rfl ?_)
  (refine Rg.front 8 ?_; refine Rg.front 8 ?_; refine Rg.front 8 ?_; refine Rg.front 8 ?_; refine Rg.front 8 ?_; refine Rg.front 8 ?_; refine Rg.front 8 ?_; refine Rg.front 8 ?_; refine Rg.front 8 ?_; refine Rg.front 9 ?_)
  refine rg_callE rfl (Balance_bg b S 1 0 0 B _ hok hB) ?_
  refine ⟨.inr (by (repeat' first | exact trivial | refine ⟨.inr ⟨_, _, _, _, Find.mem, rfl⟩, ?_⟩ | refine ⟨.inr ⟨_, _, _, _, Find.mem, inferInstance⟩, ?_⟩ | refine ⟨.inr ⟨_, Find.mem⟩, ?_⟩ | refine ⟨.inl (by decide +kernel), ?_⟩)), ?_⟩
  (refine Rg.front 0 ?_; refine Rg.front 9 ?_; refine Rg.front 9 ?_; refine Rg.front 9 ?_; refine Rg.front 9 ?_; refine Rg.front 9 ?_; refine Rg.front 9 ?_; refine Rg.front 9 ?_; refine Rg.front 9 ?_; refine Rg.front 9 ?_)
  repeat refine zB rfl rfl rfl ?_
  refine rg_indexArr rfl rfl (by decide) ?_
  rw [show (0 + Int.toNat 0 * 1 : Nat) = 0 from rfl]
  rw [show IntKind.wrap .u64 (0 + S.s0.has 0 0 + S.s0.has 1 0 + S.s0.has 2 0 + under 0 r0 + bgBal S 1 0 0) = 0 + S.s0.has 0 0 + S.s0.has 1 0 + S.s0.has 2 0 + under 0 r0 + S.s1.has 0 0 from wu_id (by have e1 := hp1 0 0; have e2 := ht 0 (by decide); have z0 := hp0 0 0; have z1 := hp0 1 0; have z2 := hp0 2 0; have y0 := hp1 0 0; have y1 := hp1 1 0; have y2 := hp1 2 0; have w0 := under_take_le 0 r0 hr0 0; have w1 := under_take_le 0 r1 hr1 0; show 0 ≤ 0 + S.s0.has 0 0 + S.s0.has 1 0 + S.s0.has 2 0 + under 0 r0 + S.s1.has 0 0 ∧ 0 + S.s0.has 0 0 + S.s0.has 1 0 + S.s0.has 2 0 + under 0 r0 + S.s1.has 0 0 < _; omega)]
  repeat (first|refine zA rfl ?_|refine zB rfl rfl rfl ?_|refine zN rfl rfl ?_|refine zQ ?_|refine zS ?_|refine yD ?_)
  rw [show IntKind.wrap .i64 (0 + 1) = 1 from by decide]
  refine ex_inLoop ?_
  repeat (first|refine zA rfl ?_|refine zB rfl rfl rfl ?_|refine zG rfl ?_|refine zQ ?_|refine zR ?_|refine zS ?_|refine zT (by decide+kernel) (by decide+kernel) ?_|refine zU rfl ?_|refine yB ?_|refine yC ?_)
  refine rg_indexArr rfl rfl (by decide) ?_
  rw [show (0 + Int.toNat 0 * 1 : Nat) = 0 from rfl]
  repeat (first|refine zA rfl ?_|refine zC rfl ?_|refine zD rfl ?_|refine zF rfl ?_)
  (refine Rg.front 8 ?_; refine Rg.front 8 ?_; refine Rg.front 8 ?_; refine Rg.front 8 ?_; refine Rg.front 8 ?_; refine Rg.front 8 ?_; refine Rg.front 8 ?_; refine Rg.front 8 ?_; refine Rg.front 8 ?_; refine Rg.front 9 ?_)
  refine rg_callE rfl (Balance_bg b S 1 1 0 B _ hok hB) ?_
  refine ⟨.inr (by (repeat' first | exact trivial | refine ⟨.inr ⟨_, _, _, _, Find.mem, rfl⟩, ?_⟩ | refine ⟨.inr ⟨_, _, _, _, Find.mem, inferInstance⟩, ?_⟩ | refine ⟨.inr ⟨_, Find.mem⟩, ?_⟩ | refine ⟨.inl (by decide +kernel), ?_⟩)), ?_⟩
  (refine Rg.front 0 ?_; refine Rg.front 9 ?_; refine Rg.front 9 ?_; refine Rg.front 9 ?_; refine Rg.front 9 ?_; refine Rg.front 9 ?_; refine Rg.front 9 ?_; refine Rg.front 9 ?_; refine Rg.front 9 ?_; refine Rg.front 9 ?_)
  repeat refine zB rfl rfl rfl ?_
  refine rg_indexArr rfl rfl (by decide) ?_
  rw [show (0 + Int.toNat 0 * 1 : Nat) = 0 from rfl]
  rw [show IntKind.wrap .u64 (0 + S.s0.has 0 0 + S.s0.has 1 0 + S.s0.has 2 0 + under 0 r0 + S.s1.has 0 0 + bgBal S 1 1 0) = 0 + S.s0.has 0 0 + S.s0.has 1 0 + S.s0.has 2 0 + under 0 r0 + S.s1.has 0 0 + S.s1.has 1 0 from wu_id (by have e1 := hp1 1 0; have e2 := ht 0 (by decide); have z0 := hp0 0 0; have z1 := hp0 1 0; have z2 := hp0 2 0; have y0 := hp1 0 0; have y1 := hp1 1 0; have y2 := hp1 2 0; have w0 := under_take_le 0 r0 hr0 0; have w1 := under_take_le 0 r1 hr1 0; show 0 ≤ 0 + S.s0.has 0 0 + S.s0.has 1 0 + S.s0.has 2 0 + under 0 r0 + S.s1.has 0 0 + S.s1.has 1 0 ∧ 0 + S.s0.has 0 0 + S.s0.has 1 0 + S.s0.has 2 0 + under 0 r0 + S.s1.has 0 0 + S.s1.has 1 0 < _; omega)]
  repeat (first|refine zA rfl ?_|refine zB rfl rfl rfl ?_|refine zN rfl rfl ?_|refine zQ ?_|refine zS ?_|refine yD ?_)
  rw [show IntKind.wrap .i64 (1 + 1) = 2 from by decide]
  refine ex_inLoop ?_
  repeat (first|refine zA rfl ?_|refine zB rfl rfl rfl ?_|refine zG rfl ?_|refine zQ ?_|refine zR ?_|refine zS ?_|refine zT (by decide+kernel) (by decide+kernel) ?_|refine zU rfl ?_|refine yB ?_|refine yC ?_)
  refine rg_indexArr rfl rfl (by decide) ?_
  rw [show (0 + Int.toNat 0 * 1 : Nat) = 0 from rfl]
  repeat (first|refine zA rfl ?_|refine zC rfl ?_|refine zD rfl ?_|refine zF rfl ?_)
  (refine Rg.front 8 ?_; refine Rg.front 8 ?_; refine Rg.front 8 ?_; refine Rg.front 8 ?_; refine Rg.front 8 ?_; refine Rg.front 8 ?_; refine Rg.front 8 ?_; refine Rg.front 8 ?_; refine Rg.front 8 ?_; refine Rg.front 9 ?_)
  refine rg_callE rfl (Balance_bg b S 1 2 0 B _ hok hB) ?_
  refine ⟨.inr (by (repeat' first | exact trivial | refine ⟨.inr ⟨_, _, _, _, Find.mem, rfl⟩, ?_⟩ | refine ⟨.inr ⟨_, _, _, _, Find.mem, inferInstance⟩, ?_⟩ | refine ⟨.inr ⟨_, Find.mem⟩, ?_⟩ | refine ⟨.inl (by decide +kernel), ?_⟩)), ?_⟩
  (refine Rg.front 0 ?_; refine Rg.front 9 ?_; refine Rg.front 9 ?_; refine Rg.front 9 ?_; refine Rg.front 9 ?_; refine Rg.front 9 ?_; refine Rg.front 9 ?_; refine Rg.front 9 ?_; refine Rg.front 9 ?_; refine Rg.front 9 ?_)
  repeat refine zB rfl rfl rfl ?_
  refine rg_indexArr rfl rfl (by decide) ?_
  rw [show (0 + Int.toNat 0 * 1 : Nat) = 0 from rfl]
  rw [show IntKind.wrap .u64 (0 + S.s0.has 0 0 + S.s0.has 1 0 + S.s0.has 2 0 + under 0 r0 + S.s1.has 0 0 + S.s1.has 1 0 + bgBal S 1 2 0) = 0 + S.s0.has 0 0 + S.s0.has 1 0 + S.s0.has 2 0 + under 0 r0 + S.s1.has 0 0 + S.s1.has 1 0 + S.s1.has 2 0 from wu_id (by have e1 := hp1 2 0; have e2 := ht 0 (by decide); have z0 := hp0 0 0; have z1 := hp0 1 0; have z2 := hp0 2 0; have y0 := hp1 0 0; have y1 := hp1 1 0; have y2 := hp1 2 0; have w0 := under_take_le 0 r0 hr0 0; have w1 := under_take_le 0 r1 hr1 0; show 0 ≤ 0 + S.s0.has 0 0 + S.s0.has 1 0 + S.s0.has 2 0 + under 0 r0 + S.s1.has 0 0 + S.s1.has 1 0 + S.s1.has 2 0 ∧ 0 + S.s0.has 0 0 + S.s0.has 1 0 + S.s0.has 2 0 + under 0 r0 + S.s1.has 0 0 + S.s1.has 1 0 + S.s1.has 2 0 < _; omega)]
  repeat (first|refine zA rfl ?_|refine zB rfl rfl rfl ?_|refine zN rfl rfl ?_|refine zQ ?_|refine zS ?_|refine yD ?_)
  rw [show IntKind.wrap .i64 (2 + 1) = 3 from by decide]
  refine ex_inLoop ?_
  repeat (first|refine zA rfl ?_|refine zB rfl rfl rfl ?_|refine zC rfl ?_|refine zE rfl ?_|refine zQ ?_|refine zR ?_|refine zS ?_|refine zV rfl ?_|refine yE rfl ?_)
  refine rg_indexArr rfl rfl (by decide) ?_
  rw [show (0 + 1 + Int.toNat 1 * 1 : Nat) = 2 from rfl]
  repeat (first|refine zA rfl ?_|refine zF rfl ?_|refine zQ ?_|refine zZ rfl ?_|refine yC ?_)
  refine ex_loop ?_
  refine ex_ind (ι := Nat) (fun i => r1.length + 1 - i) (fun i => [(39, .int .i64 i), (38, .int .i64 r1.length), (37, .slice xa1 r1.length xc1), (4, .int .i64 0), (5, .int .i64 1), (3, ptrV bo), (2, ptrV br), (0, ptrV w), (9, .int .i64 0), (12, .int .i64 1)]) (fun i => .pt bo true (.cells ⟨[.int .u64 (0 + S.s0.has 0 0 + S.s0.has 1 0 + S.s0.has 2 0 + under 0 r0 + S.s1.has 0 0 + S.s1.has 1 0 + S.s1.has 2 0 + under 0 (r1.take i)), .int .u64 0]⟩ 66 (0, 0)) :: .pt br true (.cells ⟨[.int .u64 0, .int .u64 0]⟩ 66 (0, 0)) :: kwL w b ⟨.slice xa0 r0.length xc0, .slice xa1 r1.length xc1, av0, av1, pv0, pv1⟩ S r0 r1 Γ)
    (fun i => i ≤ r1.length) 0 (Nat.zero_le _) ⟨rfl, rfl, rfl, rfl, rfl, rfl, rfl, rfl, rfl, rfl, trivial⟩ (by rw [List.take_zero, show under 0 [] = 0 from rfl, Int.add_zero]; try rfl) (fun i hi IH => ?_)
  repeat (first|refine zB rfl rfl rfl ?_|refine zQ ?_|refine zR ?_|refine zS ?_)
  refine ex_cond_split rfl (fun h1 => ?_) (fun h1 => ?_)
  · have hlt : i < r1.length := by have := of_decide_eq_true h1; omega
    repeat (first|refine zR ?_|refine yB ?_|refine yC ?_)
    (refine Ex.front 4 ?_)
    refine ex_slp (p := true) (fun _ _ h => absurd h (by omega)) (fun bs scap sls hs hzs => ?_)
    simp only [Value.slice.injEq, true_and] at hs
    obtain ⟨rfl, rfl⟩ := hs
    (refine Ex.front 6 ?_)
    refine ex_slp (p := true) (fun _ _ h => absurd h (by omega)) (fun ba acap sla hs hza => ?_)
    subst hs
    (refine Ex.front 8 ?_)
    refine ex_slp (p := true) (fun _ _ h => absurd h (by omega)) (fun bp pcap slp hs hzp => ?_)
    subst hs
    repeat (first|refine zA rfl ?_|refine zS ?_)
    refine rg_indexSl rfl rfl ⟨by omega, by omega⟩ ?_
    rw [Int.toNat_natCast, Nat.zero_add (i * 7)]
    haveI := sliceL_flatK rpC_len r1 i hlt sls
    refine rg_loadAgg rfl ?_
    repeat (first|refine zA rfl ?_|refine zB rfl rfl rfl ?_|refine zE rfl ?_|refine zF rfl ?_|refine zG rfl ?_|refine zO rfl rfl ?_|refine zQ ?_|refine zR ?_|refine zS ?_|refine zW fun bl=>?_)
    refine rg_caseG rfl rfl (fun g1 => ?_) (fun g1 => ?_)
    · have g1 : r1[i].p.coin = 0 := of_decide_eq_true g1
      repeat (first|refine zA rfl ?_|refine zC rfl ?_|refine zE rfl ?_)
      refine rg_indexArr rfl rfl (by decide) ?_
      rw [show (0 + 5 + Int.toNat 1 * 1 : Nat) = 6 from rfl]
      repeat (first|refine zA rfl ?_|refine zF rfl ?_)
      refine rg_indexSl rfl rfl ⟨by omega, by omega⟩ ?_
      refine rg_load rfl ?_ (by rw [Int.toNat_natCast, Nat.zero_add, Nat.mul_one]; exact fl1_get (g := fun x => .bool x.pend) (fun _ => rfl) r1 i hlt slp)
      repeat (first|refine zA rfl ?_|refine zK rfl rfl ?_)
      refine rg_caseG rfl rfl (fun g2 => ?_) (fun g2 => ?_)
      · repeat (first|refine zA rfl ?_|refine zC rfl ?_|refine zE rfl ?_)
        refine rg_indexArr rfl rfl (by decide) ?_
        rw [show (0 + 3 + Int.toNat 1 * 1 : Nat) = 4 from rfl]
        repeat (first|refine zA rfl ?_|refine zF rfl ?_)
        refine rg_indexSl rfl rfl ⟨by omega, by omega⟩ ?_
        refine rg_load rfl ?_ (by rw [Int.toNat_natCast, Nat.zero_add, Nat.mul_one]; exact fl1_get (g := fun x => .int .i64 x.ans) (fun _ => rfl) r1 i hlt sla)
        repeat (first|refine zB rfl rfl rfl ?_|refine zK rfl rfl ?_|refine zQ ?_)
        refine ex_cond_split rfl (fun g3 => ?_) (fun g3 => ?_)
        · have g3 : ¬ r1[i].ans = 1 := by simpa using g3
          repeat (first|refine zA rfl ?_|refine zT (by decide+kernel) (by decide+kernel) ?_)
          refine rg_indexArr rfl rfl (by decide) ?_
          rw [show (0 + Int.toNat 0 * 1 : Nat) = 0 from rfl]
          repeat (first|refine zB rfl rfl rfl ?_|refine zE rfl ?_|refine zF rfl ?_)
          refine rg_indexArr rfl rfl (by decide) ?_
          rw [show (0 + Int.toNat 0 * 1 : Nat) = 0 from rfl]
          have hwt := wt_cases 0 r1[i] g1 g2 g3
          rw [show IntKind.wrap .u64 (0 + S.s0.has 0 0 + S.s0.has 1 0 + S.s0.has 2 0 + under 0 r0 + S.s1.has 0 0 + S.s1.has 1 0 + S.s1.has 2 0 + under 0 (r1.take i) + r1[i].p.amount) = 0 + S.s0.has 0 0 + S.s0.has 1 0 + S.s0.has 2 0 + under 0 r0 + S.s1.has 0 0 + S.s1.has 1 0 + S.s1.has 2 0 + under 0 (r1.take i) + r1[i].p.amount from wu_id (by have e2 := ht 0 (by decide); have z0 := hp0 0 0; have z1 := hp0 1 0; have z2 := hp0 2 0; have y0 := hp1 0 0; have y1 := hp1 1 0; have y2 := hp1 2 0; have w0 := under_take_le 0 r0 hr0 0; have w1 := under_take_le 0 r1 hr1 0; have w2 := under_take_le 0 r1 hr1 i; have w3 := under_take_le 0 r1 hr1 (i + 1); have w4 := under_take 0 r1 i hlt; show 0 ≤ 0 + S.s0.has 0 0 + S.s0.has 1 0 + S.s0.has 2 0 + under 0 r0 + S.s1.has 0 0 + S.s1.has 1 0 + S.s1.has 2 0 + under 0 (r1.take i) + r1[i].p.amount ∧ 0 + S.s0.has 0 0 + S.s0.has 1 0 + S.s0.has 2 0 + under 0 r0 + S.s1.has 0 0 + S.s1.has 1 0 + S.s1.has 2 0 + under 0 (r1.take i) + r1[i].p.amount < _; omega)]
          repeat (first|refine zN rfl rfl ?_|refine zQ ?_|refine yD ?_)
          (refine Ex.front 10 ?_; refine Ex.front 10 ?_; refine Ex.front 10 ?_; refine Ex.front 10 ?_; refine Ex.front 10 ?_; refine Ex.front 10 ?_; refine Ex.front 10 ?_; refine Ex.front 9 ?_; refine Ex.front 9 ?_; refine Ex.front 10 ?_; refine Ex.front 10 ?_)
          refine Ex.drop (Ex.ent (EntR.e (slp_fold bs xc1 sls hzs)) ?_)
          (refine Ex.front 9 ?_; refine Ex.front 9 ?_; refine Ex.front 9 ?_; refine Ex.front 9 ?_; refine Ex.front 9 ?_; refine Ex.front 9 ?_; refine Ex.front 9 ?_; refine Ex.front 7 ?_; refine Ex.front 9 ?_; refine Ex.front 9 ?_)
          refine Ex.ent (EntR.e (slp_fold bp pcap slp hzp)) ?_
          (refine Ex.front 9 ?_; refine Ex.front 9 ?_; refine Ex.front 9 ?_; refine Ex.front 9 ?_; refine Ex.front 9 ?_; refine Ex.front 9 ?_; refine Ex.front 9 ?_; refine Ex.front 9 ?_; refine Ex.front 8 ?_; refine Ex.front 9 ?_)
          refine Ex.ent (EntR.e (slp_fold ba acap sla hza)) ?_
          (refine Ex.front 9 ?_; refine Ex.front 2 ?_; refine Ex.front 9 ?_; refine Ex.front 3 ?_; refine Ex.front 9 ?_; refine Ex.front 5 ?_; refine Ex.front 9 ?_; refine Ex.front 9 ?_; refine Ex.front 9 ?_; refine Ex.front 9 ?_)
          repeat (first|refine zA rfl ?_|refine zB rfl rfl rfl ?_|refine zQ ?_|refine zS ?_)
          refine ex_inLoop ?_
          rw [rwrap (x := (i : Int) + 1) (by omega)]
          have hu := under_take 0 r1 i hlt
          rw [hwt] at hu
          have IH' := IH (i + 1) hlt (by omega)
          rw [hu] at IH'

          rw [← Int.add_assoc] at IH'
          exact Ex.sup IH' ⟨rfl, rfl, rfl, rfl, rfl, rfl, rfl, rfl, rfl, rfl, trivial⟩

        · have g3 : r1[i].ans = 1 := by simpa using g3
          repeat (first|refine yB ?_|refine yD ?_)
          (refine Ex.front 10 ?_; refine Ex.front 10 ?_; refine Ex.front 10 ?_; refine Ex.front 10 ?_; refine Ex.front 10 ?_; refine Ex.front 10 ?_; refine Ex.front 10 ?_; refine Ex.front 9 ?_; refine Ex.front 9 ?_; refine Ex.front 10 ?_; refine Ex.front 10 ?_)
          refine Ex.drop (Ex.ent (EntR.e (slp_fold bs xc1 sls hzs)) ?_)
          (refine Ex.front 9 ?_; refine Ex.front 9 ?_; refine Ex.front 9 ?_; refine Ex.front 9 ?_; refine Ex.front 9 ?_; refine Ex.front 9 ?_; refine Ex.front 9 ?_; refine Ex.front 7 ?_; refine Ex.front 9 ?_; refine Ex.front 9 ?_)
          refine Ex.ent (EntR.e (slp_fold bp pcap slp hzp)) ?_
          (refine Ex.front 9 ?_; refine Ex.front 9 ?_; refine Ex.front 9 ?_; refine Ex.front 9 ?_; refine Ex.front 9 ?_; refine Ex.front 9 ?_; refine Ex.front 9 ?_; refine Ex.front 9 ?_; refine Ex.front 8 ?_; refine Ex.front 9 ?_)
          refine Ex.ent (EntR.e (slp_fold ba acap sla hza)) ?_
          (refine Ex.front 9 ?_; refine Ex.front 2 ?_; refine Ex.front 9 ?_; refine Ex.front 3 ?_; refine Ex.front 9 ?_; refine Ex.front 5 ?_; refine Ex.front 9 ?_; refine Ex.front 9 ?_; refine Ex.front 9 ?_; refine Ex.front 9 ?_)
          repeat (first|refine zA rfl ?_|refine zB rfl rfl rfl ?_|refine zQ ?_|refine zS ?_)
          refine ex_inLoop ?_
          rw [rwrap (x := (i : Int) + 1) (by omega)]
          have hu := under_take 0 r1 i hlt
          rw [wt_zero3 0 r1[i] g3] at hu
          have IH' := IH (i + 1) hlt (by omega)
          rw [hu] at IH'
          rw [Int.add_zero] at IH'
          skip
          exact Ex.sup IH' ⟨rfl, rfl, rfl, rfl, rfl, rfl, rfl, rfl, rfl, rfl, trivial⟩

      · have g2 : r1[i].pend = false := g2
        repeat (first|refine zK rfl rfl ?_|refine zL rfl rfl rfl rfl (by decide) trivial rfl ?_|refine zQ ?_|refine zV rfl ?_|refine yB ?_|refine yD ?_)
        (refine Ex.front 10 ?_; refine Ex.front 10 ?_; refine Ex.front 10 ?_; refine Ex.front 10 ?_; refine Ex.front 10 ?_; refine Ex.front 10 ?_; refine Ex.front 10 ?_; refine Ex.front 9 ?_; refine Ex.front 9 ?_; refine Ex.front 10 ?_; refine Ex.front 10 ?_)
        refine Ex.drop (Ex.ent (EntR.e (slp_fold bs xc1 sls hzs)) ?_)
        (refine Ex.front 9 ?_; refine Ex.front 9 ?_; refine Ex.front 9 ?_; refine Ex.front 9 ?_; refine Ex.front 9 ?_; refine Ex.front 9 ?_; refine Ex.front 9 ?_; refine Ex.front 7 ?_; refine Ex.front 9 ?_; refine Ex.front 9 ?_)
        refine Ex.ent (EntR.e (slp_fold bp pcap slp hzp)) ?_
        (refine Ex.front 9 ?_; refine Ex.front 9 ?_; refine Ex.front 9 ?_; refine Ex.front 9 ?_; refine Ex.front 9 ?_; refine Ex.front 9 ?_; refine Ex.front 9 ?_; refine Ex.front 9 ?_; refine Ex.front 8 ?_; refine Ex.front 9 ?_)
        refine Ex.ent (EntR.e (slp_fold ba acap sla hza)) ?_
        (refine Ex.front 9 ?_; refine Ex.front 2 ?_; refine Ex.front 9 ?_; refine Ex.front 3 ?_; refine Ex.front 9 ?_; refine Ex.front 5 ?_; refine Ex.front 9 ?_; refine Ex.front 9 ?_; refine Ex.front 9 ?_; refine Ex.front 9 ?_)
        repeat (first|refine zA rfl ?_|refine zB rfl rfl rfl ?_|refine zQ ?_|refine zS ?_)
        refine ex_inLoop ?_
        rw [rwrap (x := (i : Int) + 1) (by omega)]
        have hu := under_take 0 r1 i hlt
        rw [wt_zero2 0 r1[i] g2] at hu
        have IH' := IH (i + 1) hlt (by omega)
        rw [hu] at IH'
        rw [Int.add_zero] at IH'
        skip
        exact Ex.sup IH' ⟨rfl, rfl, rfl, rfl, rfl, rfl, rfl, rfl, rfl, rfl, trivial⟩

    · have g1 : ¬ r1[i].p.coin = 0 := of_decide_eq_false g1
      repeat (first|refine zA rfl ?_|refine zK rfl rfl ?_|refine zL rfl rfl rfl rfl (by decide) trivial rfl ?_|refine zQ ?_|refine zV rfl ?_|refine yB ?_|refine yD ?_)
      (refine Ex.front 10 ?_; refine Ex.front 10 ?_; refine Ex.front 10 ?_; refine Ex.front 10 ?_; refine Ex.front 10 ?_; refine Ex.front 10 ?_; refine Ex.front 10 ?_; refine Ex.front 9 ?_; refine Ex.front 9 ?_; refine Ex.front 10 ?_; refine Ex.front 10 ?_)
      refine Ex.drop (Ex.ent (EntR.e (slp_fold bs xc1 sls hzs)) ?_)
      (refine Ex.front 9 ?_; refine Ex.front 9 ?_; refine Ex.front 9 ?_; refine Ex.front 9 ?_; refine Ex.front 9 ?_; refine Ex.front 9 ?_; refine Ex.front 9 ?_; refine Ex.front 7 ?_; refine Ex.front 9 ?_; refine Ex.front 9 ?_)
      refine Ex.ent (EntR.e (slp_fold bp pcap slp hzp)) ?_
      (refine Ex.front 9 ?_; refine Ex.front 9 ?_; refine Ex.front 9 ?_; refine Ex.front 9 ?_; refine Ex.front 9 ?_; refine Ex.front 9 ?_; refine Ex.front 9 ?_; refine Ex.front 9 ?_; refine Ex.front 8 ?_; refine Ex.front 9 ?_)
      refine Ex.ent (EntR.e (slp_fold ba acap sla hza)) ?_
      (refine Ex.front 9 ?_; refine Ex.front 2 ?_; refine Ex.front 9 ?_; refine Ex.front 3 ?_; refine Ex.front 9 ?_; refine Ex.front 5 ?_; refine Ex.front 9 ?_; refine Ex.front 9 ?_; refine Ex.front 9 ?_; refine Ex.front 9 ?_)
      repeat (first|refine zA rfl ?_|refine zB rfl rfl rfl ?_|refine zQ ?_|refine zS ?_)
      refine ex_inLoop ?_
      rw [rwrap (x := (i : Int) + 1) (by omega)]
      have hu := under_take 0 r1 i hlt
      rw [wt_zero1 0 r1[i] g1] at hu
      have IH' := IH (i + 1) hlt (by omega)
      rw [hu] at IH'
      rw [Int.add_zero] at IH'
      skip
      exact Ex.sup IH' ⟨rfl, rfl, rfl, rfl, rfl, rfl, rfl, rfl, rfl, rfl, trivial⟩

  have hge : i = r1.length := by have := of_decide_eq_false h1; omega
  subst hge
  rw [List.take_length]
  rw [show 0 + S.s0.has 0 0 + S.s0.has 1 0 + S.s0.has 2 0 + under 0 r0 + S.s1.has 0 0 + S.s1.has 1 0 + S.s1.has 2 0 + under 0 r1 = 3000 from by have e2 := ht 0 (by decide); omega]
  repeat (first|refine zA rfl ?_|refine zB rfl rfl rfl ?_|refine zQ ?_|refine zS ?_|refine yD ?_|refine yE rfl ?_)
  rw [show IntKind.wrap .i64 (1 + 1) = 2 from by decide]
  refine ex_inLoop ?_
  repeat (first|refine zA rfl ?_|refine zB rfl rfl rfl ?_|refine zQ ?_|refine zR ?_|refine zS ?_|refine zV rfl ?_|refine yD ?_|refine yE rfl ?_)
  rw [show IntKind.wrap .i64 (0 + 1) = 1 from by decide]
  refine ex_inLoop ?_
  repeat (first|refine zA rfl ?_|refine zB rfl rfl rfl ?_|refine zG rfl ?_|refine zQ ?_|refine zR ?_|refine zS ?_|refine zU rfl ?_|refine yB ?_|refine yC ?_)
  refine ex_loop ?_
  repeat (first|refine zA rfl ?_|refine zB rfl rfl rfl ?_|refine zG rfl ?_|refine zQ ?_|refine zR ?_|refine zS ?_|refine zU rfl ?_|refine yB ?_|refine yC ?_)
  refine ex_loop ?_
  repeat (first|refine zA rfl ?_|refine zB rfl rfl rfl ?_|refine zG rfl ?_|refine zQ ?_|refine zR ?_|refine zS ?_|refine zT (by decide+kernel) (by decide+kernel) ?_|refine zU rfl ?_|refine yB ?_|refine yC ?_)
  refine rg_indexArr rfl rfl (by decide) ?_
  rw [show (0 + Int.toNat 1 * 1 : Nat) = 1 from rfl]
  repeat (first|refine zA rfl ?_|refine zC rfl ?_|refine zD rfl ?_|refine zF rfl ?_)
  (refine Rg.front 8 ?_; refine Rg.front 8 ?_; refine Rg.front 8 ?_; refine Rg.front 8 ?_; refine Rg.front 8 ?_; refine Rg.front 8 ?_; refine Rg.front 8 ?_; refine Rg.front 8 ?_; refine Rg.front 8 ?_; refine Rg.front 9 ?_)
  refine rg_callE rfl (Balance_bg b S 0 0 1 B _ hok hB) ?_
  refine ⟨.inr (by (repeat' first | exact trivial | refine ⟨.inr ⟨_, _, _, _, Find.mem, rfl⟩, ?_⟩ | refine ⟨.inr ⟨_, _, _, _, Find.mem, inferInstance⟩, ?_⟩ | refine ⟨.inr ⟨_, Find.mem⟩, ?_⟩ | refine ⟨.inl (by decide +kernel), ?_⟩)), ?_⟩
  (refine Rg.front 0 ?_; refine Rg.front 9 ?_; refine Rg.front 9 ?_; refine Rg.front 9 ?_; refine Rg.front 9 ?_; refine Rg.front 9 ?_; refine Rg.front 9 ?_; refine Rg.front 9 ?_; refine Rg.front 9 ?_; refine Rg.front 9 ?_)
  repeat refine zB rfl rfl rfl ?_
  refine rg_indexArr rfl rfl (by decide) ?_
  rw [show (0 + Int.toNat 1 * 1 : Nat) = 1 from rfl]
  rw [show IntKind.wrap .u64 (0 + bgBal S 0 0 1) = 0 + S.s0.has 0 1 from wu_id (by have e1 := hp0 0 1; have e2 := ht 1 (by decide); have z0 := hp0 0 1; have z1 := hp0 1 1; have z2 := hp0 2 1; have y0 := hp1 0 1; have y1 := hp1 1 1; have y2 := hp1 2 1; have w0 := under_take_le 1 r0 hr0 0; have w1 := under_take_le 1 r1 hr1 0; show 0 ≤ 0 + S.s0.has 0 1 ∧ 0 + S.s0.has 0 1 < _; omega)]
  repeat (first|refine zA rfl ?_|refine zB rfl rfl rfl ?_|refine zN rfl rfl ?_|refine zQ ?_|refine zS ?_|refine yD ?_)
  rw [show IntKind.wrap .i64 (0 + 1) = 1 from by decide]
  refine ex_inLoop ?_
  repeat (first|refine zA rfl ?_|refine zB rfl rfl rfl ?_|refine zG rfl ?_|refine zQ ?_|refine zR ?_|refine zS ?_|refine zT (by decide+kernel) (by decide+kernel) ?_|refine zU rfl ?_|refine yB ?_|refine yC ?_)
  refine rg_indexArr rfl rfl (by decide) ?_
  rw [show (0 + Int.toNat 1 * 1 : Nat) = 1 from rfl]
  repeat (first|refine zA rfl ?_|refine zC rfl ?_|refine zD rfl ?_|refine zF rfl ?_)
  (refine Rg.front 8 ?_; refine Rg.front 8 ?_; refine Rg.front 8 ?_; refine Rg.front 8 ?_; refine Rg.front 8 ?_; refine Rg.front 8 ?_; refine Rg.front 8 ?_; refine Rg.front 8 ?_; refine Rg.front 8 ?_; refine Rg.front 9 ?_)
  refine rg_callE rfl (Balance_bg b S 0 1 1 B _ hok hB) ?_
  refine ⟨.inr (by (repeat' first | exact trivial | refine ⟨.inr ⟨_, _, _, _, Find.mem, rfl⟩, ?_⟩ | refine ⟨.inr ⟨_, _, _, _, Find.mem, inferInstance⟩, ?_⟩ | refine ⟨.inr ⟨_, Find.mem⟩, ?_⟩ | refine ⟨.inl (by decide +kernel), ?_⟩)), ?_⟩
  (refine Rg.front 0 ?_; refine Rg.front 9 ?_; refine Rg.front 9 ?_; refine Rg.front 9 ?_; refine Rg.front 9 ?_; refine Rg.front 9 ?_; refine Rg.front 9 ?_; refine Rg.front 9 ?_; refine Rg.front 9 ?_; refine Rg.front 9 ?_)
  repeat refine zB rfl rfl rfl ?_
  refine rg_indexArr rfl rfl (by decide) ?_
  rw [show (0 + Int.toNat 1 * 1 : Nat) = 1 from rfl]
  rw [show IntKind.wrap .u64 (0 + S.s0.has 0 1 + bgBal S 0 1 1) = 0 + S.s0.has 0 1 + S.s0.has 1 1 from wu_id (by have e1 := hp0 1 1; have e2 := ht 1 (by decide); have z0 := hp0 0 1; have z1 := hp0 1 1; have z2 := hp0 2 1; have y0 := hp1 0 1; have y1 := hp1 1 1; have y2 := hp1 2 1; have w0 := under_take_le 1 r0 hr0 0; have w1 := under_take_le 1 r1 hr1 0; show 0 ≤ 0 + S.s0.has 0 1 + S.s0.has 1 1 ∧ 0 + S.s0.has 0 1 + S.s0.has 1 1 < _; omega)]
  repeat (first|refine zA rfl ?_|refine zB rfl rfl rfl ?_|refine zN rfl rfl ?_|refine zQ ?_|refine zS ?_|refine yD ?_)
  rw [show IntKind.wrap .i64 (1 + 1) = 2 from by decide]
  refine ex_inLoop ?_
  repeat (first|refine zA rfl ?_|refine zB rfl rfl rfl ?_|refine zG rfl ?_|refine zQ ?_|refine zR ?_|refine zS ?_|refine zT (by decide+kernel) (by decide+kernel) ?_|refine zU rfl ?_|refine yB ?_|refine yC ?_)
  refine rg_indexArr rfl rfl (by decide) ?_
  rw [show (0 + Int.toNat 1 * 1 : Nat) = 1 from rfl]
  repeat (first|refine zA rfl ?_|refine zC rfl ?_|refine zD rfl ?_|refine zF rfl ?_)
  (refine Rg.front 8 ?_; refine Rg.front 8 ?_; refine Rg.front 8 ?_; refine Rg.front 8 ?_; refine Rg.front 8 ?_; refine Rg.front 8 ?_; refine Rg.front 8 ?_; refine Rg.front 8 ?_; refine Rg.front 8 ?_; refine Rg.front 9 ?_)
  refine rg_callE rfl (Balance_bg b S 0 2 1 B _ hok hB) ?_
  refine ⟨.inr (by (repeat' first | exact trivial | refine ⟨.inr ⟨_, _, _, _, Find.mem, rfl⟩, ?_⟩ | refine ⟨.inr ⟨_, _, _, _, Find.mem, inferInstance⟩, ?_⟩ | refine ⟨.inr ⟨_, Find.mem⟩, ?_⟩ | refine ⟨.inl (by decide +kernel), ?_⟩)), ?_⟩
  (refine Rg.front 0 ?_; refine Rg.front 9 ?_; refine Rg.front 9 ?_; refine Rg.front 9 ?_; refine Rg.front 9 ?_; refine Rg.front 9 ?_; refine Rg.front 9 ?_; refine Rg.front 9 ?_; refine Rg.front 9 ?_; refine Rg.front 9 ?_)
  repeat refine zB rfl rfl rfl ?_
  refine rg_indexArr rfl rfl (by decide) ?_
  rw [show (0 + Int.toNat 1 * 1 : Nat) = 1 from rfl]
  rw [show IntKind.wrap .u64 (0 + S.s0.has 0 1 + S.s0.has 1 1 + bgBal S 0 2 1) = 0 + S.s0.has 0 1 + S.s0.has 1 1 + S.s0.has 2 1 from wu_id (by have e1 := hp0 2 1; have e2 := ht 1 (by decide); have z0 := hp0 0 1; have z1 := hp0 1 1; have z2 := hp0 2 1; have y0 := hp1 0 1; have y1 := hp1 1 1; have y2 := hp1 2 1; have w0 := under_take_le 1 r0 hr0 0; have w1 := under_take_le 1 r1 hr1 0; show 0 ≤ 0 + S.s0.has 0 1 + S.s0.has 1 1 + S.s0.has 2 1 ∧ 0 + S.s0.has 0 1 + S.s0.has 1 1 + S.s0.has 2 1 < _; omega)]
  repeat (first|refine zA rfl ?_|refine zB rfl rfl rfl ?_|refine zN rfl rfl ?_|refine zQ ?_|refine zS ?_|refine yD ?_)
  rw [show IntKind.wrap .i64 (2 + 1) = 3 from by decide]
  refine ex_inLoop ?_
  repeat (first|refine zA rfl ?_|refine zB rfl rfl rfl ?_|refine zC rfl ?_|refine zE rfl ?_|refine zQ ?_|refine zR ?_|refine zS ?_|refine zV rfl ?_|refine yE rfl ?_)
  refine rg_indexArr rfl rfl (by decide) ?_
  rw [show (0 + 1 + Int.toNat 0 * 1 : Nat) = 1 from rfl]
  repeat (first|refine zA rfl ?_|refine zF rfl ?_|refine zQ ?_|refine zZ rfl ?_|refine yC ?_)
  refine ex_loop ?_
  refine ex_ind (ι := Nat) (fun i => r0.length + 1 - i) (fun i => [(39, .int .i64 i), (38, .int .i64 r0.length), (37, .slice xa0 r0.length xc0), (4, .int .i64 1), (5, .int .i64 0), (3, ptrV bo), (2, ptrV br), (0, ptrV w), (9, .int .i64 1), (12, .int .i64 0)]) (fun i => .pt bo true (.cells ⟨[.int .u64 3000, .int .u64 (0 + S.s0.has 0 1 + S.s0.has 1 1 + S.s0.has 2 1 + under 1 (r0.take i))]⟩ 66 (0, 0)) :: .pt br true (.cells ⟨[.int .u64 0, .int .u64 0]⟩ 66 (0, 0)) :: kwL w b ⟨.slice xa0 r0.length xc0, .slice xa1 r1.length xc1, av0, av1, pv0, pv1⟩ S r0 r1 Γ)
    (fun i => i ≤ r0.length) 0 (Nat.zero_le _) ⟨rfl, rfl, rfl, rfl, rfl, rfl, rfl, rfl, rfl, rfl, trivial⟩ (by rw [List.take_zero, show under 1 [] = 0 from rfl, Int.add_zero]; try rfl) (fun i hi IH => ?_)
  repeat (first|refine zB rfl rfl rfl ?_|refine zQ ?_|refine zR ?_|refine zS ?_)
  refine ex_cond_split rfl (fun h1 => ?_) (fun h1 => ?_)
  · have hlt : i < r0.length := by have := of_decide_eq_true h1; omega
    repeat (first|refine zR ?_|refine yB ?_|refine yC ?_)
    (refine Ex.front 3 ?_)
    refine ex_slp (p := true) (fun _ _ h => absurd h (by omega)) (fun bs scap sls hs hzs => ?_)
    simp only [Value.slice.injEq, true_and] at hs
    obtain ⟨rfl, rfl⟩ := hs
    (refine Ex.front 5 ?_)
    refine ex_slp (p := true) (fun _ _ h => absurd h (by omega)) (fun ba acap sla hs hza => ?_)
    subst hs
    (refine Ex.front 7 ?_)
    refine ex_slp (p := true) (fun _ _ h => absurd h (by omega)) (fun bp pcap slp hs hzp => ?_)
    subst hs
    repeat (first|refine zA rfl ?_|refine zS ?_)
    refine rg_indexSl rfl rfl ⟨by omega, by omega⟩ ?_
    rw [Int.toNat_natCast, Nat.zero_add (i * 7)]
    haveI := sliceL_flatK rpC_len r0 i hlt sls
    refine rg_loadAgg rfl ?_
    repeat (first|refine zA rfl ?_|refine zB rfl rfl rfl ?_|refine zE rfl ?_|refine zF rfl ?_|refine zG rfl ?_|refine zO rfl rfl ?_|refine zQ ?_|refine zR ?_|refine zS ?_|refine zW fun bl=>?_)
    refine rg_caseG rfl rfl (fun g1 => ?_) (fun g1 => ?_)
    · have g1 : r0[i].p.coin = 1 := of_decide_eq_true g1
      repeat (first|refine zA rfl ?_|refine zC rfl ?_|refine zE rfl ?_)
      refine rg_indexArr rfl rfl (by decide) ?_
      rw [show (0 + 5 + Int.toNat 0 * 1 : Nat) = 5 from rfl]
      repeat (first|refine zA rfl ?_|refine zF rfl ?_)
      refine rg_indexSl rfl rfl ⟨by omega, by omega⟩ ?_
      refine rg_load rfl ?_ (by rw [Int.toNat_natCast, Nat.zero_add, Nat.mul_one]; exact fl1_get (g := fun x => .bool x.pend) (fun _ => rfl) r0 i hlt slp)
      repeat (first|refine zA rfl ?_|refine zK rfl rfl ?_)
      refine rg_caseG rfl rfl (fun g2 => ?_) (fun g2 => ?_)
      · repeat (first|refine zA rfl ?_|refine zC rfl ?_|refine zE rfl ?_)
        refine rg_indexArr rfl rfl (by decide) ?_
        rw [show (0 + 3 + Int.toNat 0 * 1 : Nat) = 3 from rfl]
        repeat (first|refine zA rfl ?_|refine zF rfl ?_)
        refine rg_indexSl rfl rfl ⟨by omega, by omega⟩ ?_
        refine rg_load rfl ?_ (by rw [Int.toNat_natCast, Nat.zero_add, Nat.mul_one]; exact fl1_get (g := fun x => .int .i64 x.ans) (fun _ => rfl) r0 i hlt sla)
        repeat (first|refine zB rfl rfl rfl ?_|refine zK rfl rfl ?_|refine zQ ?_)
        refine ex_cond_split rfl (fun g3 => ?_) (fun g3 => ?_)
        · have g3 : ¬ r0[i].ans = 1 := by simpa using g3
          repeat (first|refine zA rfl ?_|refine zT (by decide+kernel) (by decide+kernel) ?_)
          refine rg_indexArr rfl rfl (by decide) ?_
          rw [show (0 + Int.toNat 1 * 1 : Nat) = 1 from rfl]
          repeat (first|refine zB rfl rfl rfl ?_|refine zE rfl ?_|refine zF rfl ?_)
          refine rg_indexArr rfl rfl (by decide) ?_
          rw [show (0 + Int.toNat 1 * 1 : Nat) = 1 from rfl]
          have hwt := wt_cases 1 r0[i] g1 g2 g3
          rw [show IntKind.wrap .u64 (0 + S.s0.has 0 1 + S.s0.has 1 1 + S.s0.has 2 1 + under 1 (r0.take i) + r0[i].p.amount) = 0 + S.s0.has 0 1 + S.s0.has 1 1 + S.s0.has 2 1 + under 1 (r0.take i) + r0[i].p.amount from wu_id (by have e2 := ht 1 (by decide); have z0 := hp0 0 1; have z1 := hp0 1 1; have z2 := hp0 2 1; have y0 := hp1 0 1; have y1 := hp1 1 1; have y2 := hp1 2 1; have w0 := under_take_le 1 r0 hr0 0; have w1 := under_take_le 1 r1 hr1 0; have w2 := under_take_le 1 r0 hr0 i; have w3 := under_take_le 1 r0 hr0 (i + 1); have w4 := under_take 1 r0 i hlt; show 0 ≤ 0 + S.s0.has 0 1 + S.s0.has 1 1 + S.s0.has 2 1 + under 1 (r0.take i) + r0[i].p.amount ∧ 0 + S.s0.has 0 1 + S.s0.has 1 1 + S.s0.has 2 1 + under 1 (r0.take i) + r0[i].p.amount < _; omega)]
          repeat (first|refine zN rfl rfl ?_|refine zQ ?_|refine yD ?_)
          (refine Ex.front 10 ?_; refine Ex.front 10 ?_; refine Ex.front 10 ?_; refine Ex.front 10 ?_; refine Ex.front 10 ?_; refine Ex.front 10 ?_; refine Ex.front 10 ?_; refine Ex.front 9 ?_; refine Ex.front 9 ?_; refine Ex.front 10 ?_; refine Ex.front 10 ?_)
          refine Ex.drop (Ex.ent (EntR.e (slp_fold bs xc0 sls hzs)) ?_)
          (refine Ex.front 9 ?_; refine Ex.front 9 ?_; refine Ex.front 9 ?_; refine Ex.front 9 ?_; refine Ex.front 9 ?_; refine Ex.front 9 ?_; refine Ex.front 9 ?_; refine Ex.front 7 ?_; refine Ex.front 9 ?_; refine Ex.front 9 ?_)
          refine Ex.ent (EntR.e (slp_fold bp pcap slp hzp)) ?_
          (refine Ex.front 9 ?_; refine Ex.front 9 ?_; refine Ex.front 9 ?_; refine Ex.front 9 ?_; refine Ex.front 9 ?_; refine Ex.front 9 ?_; refine Ex.front 9 ?_; refine Ex.front 9 ?_; refine Ex.front 8 ?_; refine Ex.front 9 ?_)
          refine Ex.ent (EntR.e (slp_fold ba acap sla hza)) ?_
          (refine Ex.front 9 ?_; refine Ex.front 9 ?_; refine Ex.front 3 ?_; refine Ex.front 9 ?_; refine Ex.front 4 ?_; refine Ex.front 9 ?_; refine Ex.front 6 ?_; refine Ex.front 9 ?_; refine Ex.front 9 ?_; refine Ex.front 9 ?_)
          repeat (first|refine zA rfl ?_|refine zB rfl rfl rfl ?_|refine zQ ?_|refine zS ?_)
          refine ex_inLoop ?_
          rw [rwrap (x := (i : Int) + 1) (by omega)]
          have hu := under_take 1 r0 i hlt
          rw [hwt] at hu
          have IH' := IH (i + 1) hlt (by omega)
          rw [hu] at IH'

          rw [← Int.add_assoc] at IH'
          exact Ex.sup IH' ⟨rfl, rfl, rfl, rfl, rfl, rfl, rfl, rfl, rfl, rfl, trivial⟩

        · have g3 : r0[i].ans = 1 := by simpa using g3
          repeat (first|refine yB ?_|refine yD ?_)
          (refine Ex.front 10 ?_; refine Ex.front 10 ?_; refine Ex.front 10 ?_; refine Ex.front 10 ?_; refine Ex.front 10 ?_; refine Ex.front 10 ?_; refine Ex.front 10 ?_; refine Ex.front 9 ?_; refine Ex.front 9 ?_; refine Ex.front 10 ?_; refine Ex.front 10 ?_)
          refine Ex.drop (Ex.ent (EntR.e (slp_fold bs xc0 sls hzs)) ?_)
          (refine Ex.front 9 ?_; refine Ex.front 9 ?_; refine Ex.front 9 ?_; refine Ex.front 9 ?_; refine Ex.front 9 ?_; refine Ex.front 9 ?_; refine Ex.front 9 ?_; refine Ex.front 7 ?_; refine Ex.front 9 ?_; refine Ex.front 9 ?_)
          refine Ex.ent (EntR.e (slp_fold bp pcap slp hzp)) ?_
          (refine Ex.front 9 ?_; refine Ex.front 9 ?_; refine Ex.front 9 ?_; refine Ex.front 9 ?_; refine Ex.front 9 ?_; refine Ex.front 9 ?_; refine Ex.front 9 ?_; refine Ex.front 9 ?_; refine Ex.front 8 ?_; refine Ex.front 9 ?_)
          refine Ex.ent (EntR.e (slp_fold ba acap sla hza)) ?_
          (refine Ex.front 9 ?_; refine Ex.front 9 ?_; refine Ex.front 3 ?_; refine Ex.front 9 ?_; refine Ex.front 4 ?_; refine Ex.front 9 ?_; refine Ex.front 6 ?_; refine Ex.front 9 ?_; refine Ex.front 9 ?_; refine Ex.front 9 ?_)
          repeat (first|refine zA rfl ?_|refine zB rfl rfl rfl ?_|refine zQ ?_|refine zS ?_)
          refine ex_inLoop ?_
          rw [rwrap (x := (i : Int) + 1) (by omega)]
          have hu := under_take 1 r0 i hlt
          rw [wt_zero3 1 r0[i] g3] at hu
          have IH' := IH (i + 1) hlt (by omega)
          rw [hu] at IH'
          rw [Int.add_zero] at IH'
          skip
          exact Ex.sup IH' ⟨rfl, rfl, rfl, rfl, rfl, rfl, rfl, rfl, rfl, rfl, trivial⟩

      · have g2 : r0[i].pend = false := g2
        repeat (first|refine zK rfl rfl ?_|refine zL rfl rfl rfl rfl (by decide) trivial rfl ?_|refine zQ ?_|refine zV rfl ?_|refine yB ?_|refine yD ?_)
        (refine Ex.front 10 ?_; refine Ex.front 10 ?_; refine Ex.front 10 ?_; refine Ex.front 10 ?_; refine Ex.front 10 ?_; refine Ex.front 10 ?_; refine Ex.front 10 ?_; refine Ex.front 9 ?_; refine Ex.front 9 ?_; refine Ex.front 10 ?_; refine Ex.front 10 ?_)
        refine Ex.drop (Ex.ent (EntR.e (slp_fold bs xc0 sls hzs)) ?_)
        (refine Ex.front 9 ?_; refine Ex.front 9 ?_; refine Ex.front 9 ?_; refine Ex.front 9 ?_; refine Ex.front 9 ?_; refine Ex.front 9 ?_; refine Ex.front 9 ?_; refine Ex.front 7 ?_; refine Ex.front 9 ?_; refine Ex.front 9 ?_)
        refine Ex.ent (EntR.e (slp_fold bp pcap slp hzp)) ?_
        (refine Ex.front 9 ?_; refine Ex.front 9 ?_; refine Ex.front 9 ?_; refine Ex.front 9 ?_; refine Ex.front 9 ?_; refine Ex.front 9 ?_; refine Ex.front 9 ?_; refine Ex.front 9 ?_; refine Ex.front 8 ?_; refine Ex.front 9 ?_)
        refine Ex.ent (EntR.e (slp_fold ba acap sla hza)) ?_
        (refine Ex.front 9 ?_; refine Ex.front 9 ?_; refine Ex.front 3 ?_; refine Ex.front 9 ?_; refine Ex.front 4 ?_; refine Ex.front 9 ?_; refine Ex.front 6 ?_; refine Ex.front 9 ?_; refine Ex.front 9 ?_; refine Ex.front 9 ?_)
        repeat (first|refine zA rfl ?_|refine zB rfl rfl rfl ?_|refine zQ ?_|refine zS ?_)
        refine ex_inLoop ?_
        rw [rwrap (x := (i : Int) + 1) (by omega)]
        have hu := under_take 1 r0 i hlt
        rw [wt_zero2 1 r0[i] g2] at hu
        have IH' := IH (i + 1) hlt (by omega)
        rw [hu] at IH'
        rw [Int.add_zero] at IH'
        skip
        exact Ex.sup IH' ⟨rfl, rfl, rfl, rfl, rfl, rfl, rfl, rfl, rfl, rfl, trivial⟩

    · have g1 : ¬ r0[i].p.coin = 1 := of_decide_eq_false g1
      repeat (first|refine zA rfl ?_|refine zK rfl rfl ?_|refine zL rfl rfl rfl rfl (by decide) trivial rfl ?_|refine zQ ?_|refine zV rfl ?_|refine yB ?_|refine yD ?_)
      (refine Ex.front 10 ?_; refine Ex.front 10 ?_; refine Ex.front 10 ?_; refine Ex.front 10 ?_; refine Ex.front 10 ?_; refine Ex.front 10 ?_; refine Ex.front 10 ?_; refine Ex.front 9 ?_; refine Ex.front 9 ?_; refine Ex.front 10 ?_; refine Ex.front 10 ?_)
      refine Ex.drop (Ex.ent (EntR.e (slp_fold bs xc0 sls hzs)) ?_)
      (refine Ex.front 9 ?_; refine Ex.front 9 ?_; refine Ex.front 9 ?_; refine Ex.front 9 ?_; refine Ex.front 9 ?_; refine Ex.front 9 ?_; refine Ex.front 9 ?_; refine Ex.front 7 ?_; refine Ex.front 9 ?_; refine Ex.front 9 ?_)
      refine Ex.ent (EntR.e (slp_fold bp pcap slp hzp)) ?_
      (refine Ex.front 9 ?_; refine Ex.front 9 ?_; refine Ex.front 9 ?_; refine Ex.front 9 ?_; refine Ex.front 9 ?_; refine Ex.front 9 ?_; refine Ex.front 9 ?_; refine Ex.front 9 ?_; refine Ex.front 8 ?_; refine Ex.front 9 ?_)
      refine Ex.ent (EntR.e (slp_fold ba acap sla hza)) ?_
      (refine Ex.front 9 ?_; refine Ex.front 9 ?_; refine Ex.front 3 ?_; refine Ex.front 9 ?_; refine Ex.front 4 ?_; refine Ex.front 9 ?_; refine Ex.front 6 ?_; refine Ex.front 9 ?_; refine Ex.front 9 ?_; refine Ex.front 9 ?_)
      repeat (first|refine zA rfl ?_|refine zB rfl rfl rfl ?_|refine zQ ?_|refine zS ?_)
      refine ex_inLoop ?_
      rw [rwrap (x := (i : Int) + 1) (by omega)]
      have hu := under_take 1 r0 i hlt
      rw [wt_zero1 1 r0[i] g1] at hu
      have IH' := IH (i + 1) hlt (by omega)
      rw [hu] at IH'
      rw [Int.add_zero] at IH'
      skip
      exact Ex.sup IH' ⟨rfl, rfl, rfl, rfl, rfl, rfl, rfl, rfl, rfl, rfl, trivial⟩

  have hge : i = r0.length := by have := of_decide_eq_false h1; omega
  subst hge
  rw [List.take_length]
  repeat (first|refine zA rfl ?_|refine zB rfl rfl rfl ?_|refine zQ ?_|refine zS ?_|refine yD ?_|refine yE rfl ?_)
  rw [show IntKind.wrap .i64 (0 + 1) = 1 from by decide]
  refine ex_inLoop ?_
  repeat (first|refine zA rfl ?_|refine zB rfl rfl rfl ?_|refine zG rfl ?_|refine zQ ?_|refine zR ?_|refine zS ?_|refine zU rfl ?_|refine yB ?_|refine yC ?_)
  refine ex_loop ?_
  repeat (first|refine zA rfl ?_|refine zB rfl rfl rfl ?_|refine zG rfl ?_|refine zQ ?_|refine zR ?_|refine zS ?_|refine zT (by decide+kernel) (by decide+kernel) ?_|refine zU rfl ?_|refine yB ?_|refine yC ?_)
  refine rg_indexArr rfl rfl (by decide) ?_
  rw [show (0 + Int.toNat 1 * 1 : Nat) = 1 from rfl]
  repeat (first|refine zA rfl ?_|refine zC rfl ?_|refine zD rfl ?_|refine zF rfl ?_)
  (refine Rg.front 8 ?_; refine Rg.front 8 ?_; refine Rg.front 8 ?_; refine Rg.front 8 ?_; refine Rg.front 8 ?_; refine Rg.front 8 ?_; refine Rg.front 8 ?_; refine Rg.front 8 ?_; refine Rg.front 8 ?_; refine Rg.front 9 ?_)
  refine rg_callE rfl (Balance_bg b S 1 0 1 B _ hok hB) ?_
  refine ⟨.inr (by (repeat' first | exact trivial | refine ⟨.inr ⟨_, _, _, _, Find.mem, rfl⟩, ?_⟩ | refine ⟨.inr ⟨_, _, _, _, Find.mem, inferInstance⟩, ?_⟩ | refine ⟨.inr ⟨_, Find.mem⟩, ?_⟩ | refine ⟨.inl (by decide +kernel), ?_⟩)), ?_⟩
  (refine Rg.front 0 ?_; refine Rg.front 9 ?_; refine Rg.front 9 ?_; refine Rg.front 9 ?_; refine Rg.front 9 ?_; refine Rg.front 9 ?_; refine Rg.front 9 ?_; refine Rg.front 9 ?_; refine Rg.front 9 ?_; refine Rg.front 9 ?_)
  repeat refine zB rfl rfl rfl ?_
  refine rg_indexArr rfl rfl (by decide) ?_
  rw [show (0 + Int.toNat 1 * 1 : Nat) = 1 from rfl]
  rw [show IntKind.wrap .u64 (0 + S.s0.has 0 1 + S.s0.has 1 1 + S.s0.has 2 1 + under 1 r0 + bgBal S 1 0 1) = 0 + S.s0.has 0 1 + S.s0.has 1 1 + S.s0.has 2 1 + under 1 r0 + S.s1.has 0 1 from wu_id (by have e1 := hp1 0 1; have e2 := ht 1 (by decide); have z0 := hp0 0 1; have z1 := hp0 1 1; have z2 := hp0 2 1; have y0 := hp1 0 1; have y1 := hp1 1 1; have y2 := hp1 2 1; have w0 := under_take_le 1 r0 hr0 0; have w1 := under_take_le 1 r1 hr1 0; show 0 ≤ 0 + S.s0.has 0 1 + S.s0.has 1 1 + S.s0.has 2 1 + under 1 r0 + S.s1.has 0 1 ∧ 0 + S.s0.has 0 1 + S.s0.has 1 1 + S.s0.has 2 1 + under 1 r0 + S.s1.has 0 1 < _; omega)]
  repeat (first|refine zA rfl ?_|refine zB rfl rfl rfl ?_|refine zN rfl rfl ?_|refine zQ ?_|refine zS ?_|refine yD ?_)
  rw [show IntKind.wrap .i64 (0 + 1) = 1 from by decide]
  refine ex_inLoop ?_
  repeat (first|refine zA rfl ?_|refine zB rfl rfl rfl ?_|refine zG rfl ?_|refine zQ ?_|refine zR ?_|refine zS ?_|refine zT (by decide+kernel) (by decide+kernel) ?_|refine zU rfl ?_|refine yB ?_|refine yC ?_)
  refine rg_indexArr rfl rfl (by decide) ?_
  rw [show (0 + Int.toNat 1 * 1 : Nat) = 1 from rfl]
  repeat (first|refine zA rfl ?_|refine zC rfl ?_|refine zD rfl ?_|refine zF rfl ?_)
  (refine Rg.front 8 ?_; refine Rg.front 8 ?_; refine Rg.front 8 ?_; refine Rg.front 8 ?_; refine Rg.front 8 ?_; refine Rg.front 8 ?_; refine Rg.front 8 ?_; refine Rg.front 8 ?_; refine Rg.front 8 ?_; refine Rg.front 9 ?_)
  refine rg_callE rfl (Balance_bg b S 1 1 1 B _ hok hB) ?_
  refine ⟨.inr (by (repeat' first | exact trivial | refine ⟨.inr ⟨_, _, _, _, Find.mem, rfl⟩, ?_⟩ | refine ⟨.inr ⟨_, _, _, _, Find.mem, inferInstance⟩, ?_⟩ | refine ⟨.inr ⟨_, Find.mem⟩, ?_⟩ | refine ⟨.inl (by decide +kernel), ?_⟩)), ?_⟩
  (refine Rg.front 0 ?_; refine Rg.front 9 ?_; refine Rg.front 9 ?_; refine Rg.front 9 ?_; refine Rg.front 9 ?_; refine Rg.front 9 ?_; refine Rg.front 9 ?_; refine Rg.front 9 ?_; refine Rg.front 9 ?_; refine Rg.front 9 ?_)
  repeat refine zB rfl rfl rfl ?_
  refine rg_indexArr rfl rfl (by decide) ?_
  rw [show (0 + Int.toNat 1 * 1 : Nat) = 1 from rfl]
  rw [show IntKind.wrap .u64 (0 + S.s0.has 0 1 + S.s0.has 1 1 + S.s0.has 2 1 + under 1 r0 + S.s1.has 0 1 + bgBal S 1 1 1) = 0 + S.s0.has 0 1 + S.s0.has 1 1 + S.s0.has 2 1 + under 1 r0 + S.s1.has 0 1 + S.s1.has 1 1 from wu_id (by have e1 := hp1 1 1; have e2 := ht 1 (by decide); have z0 := hp0 0 1; have z1 := hp0 1 1; have z2 := hp0 2 1; have y0 := hp1 0 1; have y1 := hp1 1 1; have y2 := hp1 2 1; have w0 := under_take_le 1 r0 hr0 0; have w1 := under_take_le 1 r1 hr1 0; show 0 ≤ 0 + S.s0.has 0 1 + S.s0.has 1 1 + S.s0.has 2 1 + under 1 r0 + S.s1.has 0 1 + S.s1.has 1 1 ∧ 0 + S.s0.has 0 1 + S.s0.has 1 1 + S.s0.has 2 1 + under 1 r0 + S.s1.has 0 1 + S.s1.has 1 1 < _; omega)]
  repeat (first|refine zA rfl ?_|refine zB rfl rfl rfl ?_|refine zN rfl rfl ?_|refine zQ ?_|refine zS ?_|refine yD ?_)
  rw [show IntKind.wrap .i64 (1 + 1) = 2 from by decide]
  refine ex_inLoop ?_
  repeat (first|refine zA rfl ?_|refine zB rfl rfl rfl ?_|refine zG rfl ?_|refine zQ ?_|refine zR ?_|refine zS ?_|refine zT (by decide+kernel) (by decide+kernel) ?_|refine zU rfl ?_|refine yB ?_|refine yC ?_)
  refine rg_indexArr rfl rfl (by decide) ?_
  rw [show (0 + Int.toNat 1 * 1 : Nat) = 1 from rfl]
  repeat (first|refine zA rfl ?_|refine zC rfl ?_|refine zD rfl ?_|refine zF rfl ?_)
  (refine Rg.front 8 ?_; refine Rg.front 8 ?_; refine Rg.front 8 ?_; refine Rg.front 8 ?_; refine Rg.front 8 ?_; refine Rg.front 8 ?_; refine Rg.front 8 ?_; refine Rg.front 8 ?_; refine Rg.front 8 ?_; refine Rg.front 9 ?_)
  refine rg_callE rfl (Balance_bg b S 1 2 1 B _ hok hB) ?_
  refine ⟨.inr (by (repeat' first | exact trivial | refine ⟨.inr ⟨_, _, _, _, Find.mem, rfl⟩, ?_⟩ | refine ⟨.inr ⟨_, _, _, _, Find.mem, inferInstance⟩, ?_⟩ | refine ⟨.inr ⟨_, Find.mem⟩, ?_⟩ | refine ⟨.inl (by decide +kernel), ?_⟩)), ?_⟩
  (refine Rg.front 0 ?_; refine Rg.front 9 ?_; refine Rg.front 9 ?_; refine Rg.front 9 ?_; refine Rg.front 9 ?_; refine Rg.front 9 ?_; refine Rg.front 9 ?_; refine Rg.front 9 ?_; refine Rg.front 9 ?_; refine Rg.front 9 ?_)
  repeat refine zB rfl rfl rfl ?_
  refine rg_indexArr rfl rfl (by decide) ?_
  rw [show (0 + Int.toNat 1 * 1 : Nat) = 1 from rfl]
  rw [show IntKind.wrap .u64 (0 + S.s0.has 0 1 + S.s0.has 1 1 + S.s0.has 2 1 + under 1 r0 + S.s1.has 0 1 + S.s1.has 1 1 + bgBal S 1 2 1) = 0 + S.s0.has 0 1 + S.s0.has 1 1 + S.s0.has 2 1 + under 1 r0 + S.s1.has 0 1 + S.s1.has 1 1 + S.s1.has 2 1 from wu_id (by have e1 := hp1 2 1; have e2 := ht 1 (by decide); have z0 := hp0 0 1; have z1 := hp0 1 1; have z2 := hp0 2 1; have y0 := hp1 0 1; have y1 := hp1 1 1; have y2 := hp1 2 1; have w0 := under_take_le 1 r0 hr0 0; have w1 := under_take_le 1 r1 hr1 0; show 0 ≤ 0 + S.s0.has 0 1 + S.s0.has 1 1 + S.s0.has 2 1 + under 1 r0 + S.s1.has 0 1 + S.s1.has 1 1 + S.s1.has 2 1 ∧ 0 + S.s0.has 0 1 + S.s0.has 1 1 + S.s0.has 2 1 + under 1 r0 + S.s1.has 0 1 + S.s1.has 1 1 + S.s1.has 2 1 < _; omega)]
  repeat (first|refine zA rfl ?_|refine zB rfl rfl rfl ?_|refine zN rfl rfl ?_|refine zQ ?_|refine zS ?_|refine yD ?_)
  rw [show IntKind.wrap .i64 (2 + 1) = 3 from by decide]
  refine ex_inLoop ?_
  repeat (first|refine zA rfl ?_|refine zB rfl rfl rfl ?_|refine zC rfl ?_|refine zE rfl ?_|refine zQ ?_|refine zR ?_|refine zS ?_|refine zV rfl ?_|refine yE rfl ?_)
  refine rg_indexArr rfl rfl (by decide) ?_
  rw [show (0 + 1 + Int.toNat 1 * 1 : Nat) = 2 from rfl]
  repeat (first|refine zA rfl ?_|refine zF rfl ?_|refine zQ ?_|refine zZ rfl ?_|refine yC ?_)
  refine ex_loop ?_
  refine ex_ind (ι := Nat) (fun i => r1.length + 1 - i) (fun i => [(39, .int .i64 i), (38, .int .i64 r1.length), (37, .slice xa1 r1.length xc1), (4, .int .i64 1), (5, .int .i64 1), (3, ptrV bo), (2, ptrV br), (0, ptrV w), (9, .int .i64 1), (12, .int .i64 1)]) (fun i => .pt bo true (.cells ⟨[.int .u64 3000, .int .u64 (0 + S.s0.has 0 1 + S.s0.has 1 1 + S.s0.has 2 1 + under 1 r0 + S.s1.has 0 1 + S.s1.has 1 1 + S.s1.has 2 1 + under 1 (r1.take i))]⟩ 66 (0, 0)) :: .pt br true (.cells ⟨[.int .u64 0, .int .u64 0]⟩ 66 (0, 0)) :: kwL w b ⟨.slice xa0 r0.length xc0, .slice xa1 r1.length xc1, av0, av1, pv0, pv1⟩ S r0 r1 Γ)
    (fun i => i ≤ r1.length) 0 (Nat.zero_le _) ⟨rfl, rfl, rfl, rfl, rfl, rfl, rfl, rfl, rfl, rfl, trivial⟩ (by rw [List.take_zero, show under 1 [] = 0 from rfl, Int.add_zero]; try rfl) (fun i hi IH => ?_)
  repeat (first|refine zB rfl rfl rfl ?_|refine zQ ?_|refine zR ?_|refine zS ?_)
  refine ex_cond_split rfl (fun h1 => ?_) (fun h1 => ?_)
  · have hlt : i < r1.length := by have := of_decide_eq_true h1; omega
    repeat (first|refine zR ?_|refine yB ?_|refine yC ?_)
    (refine Ex.front 4 ?_)
    refine ex_slp (p := true) (fun _ _ h => absurd h (by omega)) (fun bs scap sls hs hzs => ?_)
    simp only [Value.slice.injEq, true_and] at hs
    obtain ⟨rfl, rfl⟩ := hs
    (refine Ex.front 6 ?_)
    refine ex_slp (p := true) (fun _ _ h => absurd h (by omega)) (fun ba acap sla hs hza => ?_)
    subst hs
    (refine Ex.front 8 ?_)
    refine ex_slp (p := true) (fun _ _ h => absurd h (by omega)) (fun bp pcap slp hs hzp => ?_)
    subst hs
    repeat (first|refine zA rfl ?_|refine zS ?_)
    refine rg_indexSl rfl rfl ⟨by omega, by omega⟩ ?_
    rw [Int.toNat_natCast, Nat.zero_add (i * 7)]
    haveI := sliceL_flatK rpC_len r1 i hlt sls
    refine rg_loadAgg rfl ?_
    repeat (first|refine zA rfl ?_|refine zB rfl rfl rfl ?_|refine zE rfl ?_|refine zF rfl ?_|refine zG rfl ?_|refine zO rfl rfl ?_|refine zQ ?_|refine zR ?_|refine zS ?_|refine zW fun bl=>?_)
    refine rg_caseG rfl rfl (fun g1 => ?_) (fun g1 => ?_)
    · have g1 : r1[i].p.coin = 1 := of_decide_eq_true g1
      repeat (first|refine zA rfl ?_|refine zC rfl ?_|refine zE rfl ?_)
      refine rg_indexArr rfl rfl (by decide) ?_
      rw [show (0 + 5 + Int.toNat 1 * 1 : Nat) = 6 from rfl]
      repeat (first|refine zA rfl ?_|refine zF rfl ?_)
      refine rg_indexSl rfl rfl ⟨by omega, by omega⟩ ?_
      refine rg_load rfl ?_ (by rw [Int.toNat_natCast, Nat.zero_add, Nat.mul_one]; exact fl1_get (g := fun x => .bool x.pend) (fun _ => rfl) r1 i hlt slp)
      repeat (first|refine zA rfl ?_|refine zK rfl rfl ?_)
      refine rg_caseG rfl rfl (fun g2 => ?_) (fun g2 => ?_)
      · repeat (first|refine zA rfl ?_|refine zC rfl ?_|refine zE rfl ?_)
        refine rg_indexArr rfl rfl (by decide) ?_
        rw [show (0 + 3 + Int.toNat 1 * 1 : Nat) = 4 from rfl]
        repeat (first|refine zA rfl ?_|refine zF rfl ?_)
        refine rg_indexSl rfl rfl ⟨by omega, by omega⟩ ?_
        refine rg_load rfl ?_ (by rw [Int.toNat_natCast, Nat.zero_add, Nat.mul_one]; exact fl1_get (g := fun x => .int .i64 x.ans) (fun _ => rfl) r1 i hlt sla)
        repeat (first|refine zB rfl rfl rfl ?_|refine zK rfl rfl ?_|refine zQ ?_)
        refine ex_cond_split rfl (fun g3 => ?_) (fun g3 => ?_)
        · have g3 : ¬ r1[i].ans = 1 := by simpa using g3
          repeat (first|refine zA rfl ?_|refine zT (by decide+kernel) (by decide+kernel) ?_)
          refine rg_indexArr rfl rfl (by decide) ?_
          rw [show (0 + Int.toNat 1 * 1 : Nat) = 1 from rfl]
          repeat (first|refine zB rfl rfl rfl ?_|refine zE rfl ?_|refine zF rfl ?_)
          refine rg_indexArr rfl rfl (by decide) ?_
          rw [show (0 + Int.toNat 1 * 1 : Nat) = 1 from rfl]
          have hwt := wt_cases 1 r1[i] g1 g2 g3
          rw [show IntKind.wrap .u64 (0 + S.s0.has 0 1 + S.s0.has 1 1 + S.s0.has 2 1 + under 1 r0 + S.s1.has 0 1 + S.s1.has 1 1 + S.s1.has 2 1 + under 1 (r1.take i) + r1[i].p.amount) = 0 + S.s0.has 0 1 + S.s0.has 1 1 + S.s0.has 2 1 + under 1 r0 + S.s1.has 0 1 + S.s1.has 1 1 + S.s1.has 2 1 + under 1 (r1.take i) + r1[i].p.amount from wu_id (by have e2 := ht 1 (by decide); have z0 := hp0 0 1; have z1 := hp0 1 1; have z2 := hp0 2 1; have y0 := hp1 0 1; have y1 := hp1 1 1; have y2 := hp1 2 1; have w0 := under_take_le 1 r0 hr0 0; have w1 := under_take_le 1 r1 hr1 0; have w2 := under_take_le 1 r1 hr1 i; have w3 := under_take_le 1 r1 hr1 (i + 1); have w4 := under_take 1 r1 i hlt; show 0 ≤ 0 + S.s0.has 0 1 + S.s0.has 1 1 + S.s0.has 2 1 + under 1 r0 + S.s1.has 0 1 + S.s1.has 1 1 + S.s1.has 2 1 + under 1 (r1.take i) + r1[i].p.amount ∧ 0 + S.s0.has 0 1 + S.s0.has 1 1 + S.s0.has 2 1 + under 1 r0 + S.s1.has 0 1 + S.s1.has 1 1 + S.s1.has 2 1 + under 1 (r1.take i) + r1[i].p.amount < _; omega)]
          repeat (first|refine zN rfl rfl ?_|refine zQ ?_|refine yD ?_)
          (refine Ex.front 10 ?_; refine Ex.front 10 ?_; refine Ex.front 10 ?_; refine Ex.front 10 ?_; refine Ex.front 10 ?_; refine Ex.front 10 ?_; refine Ex.front 10 ?_; refine Ex.front 9 ?_; refine Ex.front 9 ?_; refine Ex.front 10 ?_; refine Ex.front 10 ?_)
          refine Ex.drop (Ex.ent (EntR.e (slp_fold bs xc1 sls hzs)) ?_)
          (refine Ex.front 9 ?_; refine Ex.front 9 ?_; refine Ex.front 9 ?_; refine Ex.front 9 ?_; refine Ex.front 9 ?_; refine Ex.front 9 ?_; refine Ex.front 9 ?_; refine Ex.front 7 ?_; refine Ex.front 9 ?_; refine Ex.front 9 ?_)
          refine Ex.ent (EntR.e (slp_fold bp pcap slp hzp)) ?_
          (refine Ex.front 9 ?_; refine Ex.front 9 ?_; refine Ex.front 9 ?_; refine Ex.front 9 ?_; refine Ex.front 9 ?_; refine Ex.front 9 ?_; refine Ex.front 9 ?_; refine Ex.front 9 ?_; refine Ex.front 8 ?_; refine Ex.front 9 ?_)
          refine Ex.ent (EntR.e (slp_fold ba acap sla hza)) ?_
          (refine Ex.front 9 ?_; refine Ex.front 2 ?_; refine Ex.front 9 ?_; refine Ex.front 3 ?_; refine Ex.front 9 ?_; refine Ex.front 5 ?_; refine Ex.front 9 ?_; refine Ex.front 9 ?_; refine Ex.front 9 ?_; refine Ex.front 9 ?_)
          repeat (first|refine zA rfl ?_|refine zB rfl rfl rfl ?_|refine zQ ?_|refine zS ?_)
          refine ex_inLoop ?_
          rw [rwrap (x := (i : Int) + 1) (by omega)]
          have hu := under_take 1 r1 i hlt
          rw [hwt] at hu
          have IH' := IH (i + 1) hlt (by omega)
          rw [hu] at IH'

          rw [← Int.add_assoc] at IH'
          exact Ex.sup IH' ⟨rfl, rfl, rfl, rfl, rfl, rfl, rfl, rfl, rfl, rfl, trivial⟩

        · have g3 : r1[i].ans = 1 := by simpa using g3
          repeat (first|refine yB ?_|refine yD ?_)
          (refine Ex.front 10 ?_; refine Ex.front 10 ?_; refine Ex.front 10 ?_; refine Ex.front 10 ?_; refine Ex.front 10 ?_; refine Ex.front 10 ?_; refine Ex.front 10 ?_; refine Ex.front 9 ?_; refine Ex.front 9 ?_; refine Ex.front 10 ?_; refine Ex.front 10 ?_)
          refine Ex.drop (Ex.ent (EntR.e (slp_fold bs xc1 sls hzs)) ?_)
          (refine Ex.front 9 ?_; refine Ex.front 9 ?_; refine Ex.front 9 ?_; refine Ex.front 9 ?_; refine Ex.front 9 ?_; refine Ex.front 9 ?_; refine Ex.front 9 ?_; refine Ex.front 7 ?_; refine Ex.front 9 ?_; refine Ex.front 9 ?_)
          refine Ex.ent (EntR.e (slp_fold bp pcap slp hzp)) ?_
          (refine Ex.front 9 ?_; refine Ex.front 9 ?_; refine Ex.front 9 ?_; refine Ex.front 9 ?_; refine Ex.front 9 ?_; refine Ex.front 9 ?_; refine Ex.front 9 ?_; refine Ex.front 9 ?_; refine Ex.front 8 ?_; refine Ex.front 9 ?_)
          refine Ex.ent (EntR.e (slp_fold ba acap sla hza)) ?_
          (refine Ex.front 9 ?_; refine Ex.front 2 ?_; refine Ex.front 9 ?_; refine Ex.front 3 ?_; refine Ex.front 9 ?_; refine Ex.front 5 ?_; refine Ex.front 9 ?_; refine Ex.front 9 ?_; refine Ex.front 9 ?_; refine Ex.front 9 ?_)
          repeat (first|refine zA rfl ?_|refine zB rfl rfl rfl ?_|refine zQ ?_|refine zS ?_)
          refine ex_inLoop ?_
          rw [rwrap (x := (i : Int) + 1) (by omega)]
          have hu := under_take 1 r1 i hlt
          rw [wt_zero3 1 r1[i] g3] at hu
          have IH' := IH (i + 1) hlt (by omega)
          rw [hu] at IH'
          rw [Int.add_zero] at IH'
          skip
          exact Ex.sup IH' ⟨rfl, rfl, rfl, rfl, rfl, rfl, rfl, rfl, rfl, rfl, trivial⟩

      · have g2 : r1[i].pend = false := g2
        repeat (first|refine zK rfl rfl ?_|refine zL rfl rfl rfl rfl (by decide) trivial rfl ?_|refine zQ ?_|refine zV rfl ?_|refine yB ?_|refine yD ?_)
        (refine Ex.front 10 ?_; refine Ex.front 10 ?_; refine Ex.front 10 ?_; refine Ex.front 10 ?_; refine Ex.front 10 ?_; refine Ex.front 10 ?_; refine Ex.front 10 ?_; refine Ex.front 9 ?_; refine Ex.front 9 ?_; refine Ex.front 10 ?_; refine Ex.front 10 ?_)
        refine Ex.drop (Ex.ent (EntR.e (slp_fold bs xc1 sls hzs)) ?_)
        (refine Ex.front 9 ?_; refine Ex.front 9 ?_; refine Ex.front 9 ?_; refine Ex.front 9 ?_; refine Ex.front 9 ?_; refine Ex.front 9 ?_; refine Ex.front 9 ?_; refine Ex.front 7 ?_; refine Ex.front 9 ?_; refine Ex.front 9 ?_)
        refine Ex.ent (EntR.e (slp_fold bp pcap slp hzp)) ?_
        (refine Ex.front 9 ?_; refine Ex.front 9 ?_; refine Ex.front 9 ?_; refine Ex.front 9 ?_; refine Ex.front 9 ?_; refine Ex.front 9 ?_; refine Ex.front 9 ?_; refine Ex.front 9 ?_; refine Ex.front 8 ?_; refine Ex.front 9 ?_)
        refine Ex.ent (EntR.e (slp_fold ba acap sla hza)) ?_
        (refine Ex.front 9 ?_; refine Ex.front 2 ?_; refine Ex.front 9 ?_; refine Ex.front 3 ?_; refine Ex.front 9 ?_; refine Ex.front 5 ?_; refine Ex.front 9 ?_; refine Ex.front 9 ?_; refine Ex.front 9 ?_; refine Ex.front 9 ?_)
        repeat (first|refine zA rfl ?_|refine zB rfl rfl rfl ?_|refine zQ ?_|refine zS ?_)
        refine ex_inLoop ?_
        rw [rwrap (x := (i : Int) + 1) (by omega)]
        have hu := under_take 1 r1 i hlt
        rw [wt_zero2 1 r1[i] g2] at hu
        have IH' := IH (i + 1) hlt (by omega)
        rw [hu] at IH'
        rw [Int.add_zero] at IH'
        skip
        exact Ex.sup IH' ⟨rfl, rfl, rfl, rfl, rfl, rfl, rfl, rfl, rfl, rfl, trivial⟩

    · have g1 : ¬ r1[i].p.coin = 1 := of_decide_eq_false g1
      repeat (first|refine zA rfl ?_|refine zK rfl rfl ?_|refine zL rfl rfl rfl rfl (by decide) trivial rfl ?_|refine zQ ?_|refine zV rfl ?_|refine yB ?_|refine yD ?_)
      (refine Ex.front 10 ?_; refine Ex.front 10 ?_; refine Ex.front 10 ?_; refine Ex.front 10 ?_; refine Ex.front 10 ?_; refine Ex.front 10 ?_; refine Ex.front 10 ?_; refine Ex.front 9 ?_; refine Ex.front 9 ?_; refine Ex.front 10 ?_; refine Ex.front 10 ?_)
      refine Ex.drop (Ex.ent (EntR.e (slp_fold bs xc1 sls hzs)) ?_)
      (refine Ex.front 9 ?_; refine Ex.front 9 ?_; refine Ex.front 9 ?_; refine Ex.front 9 ?_; refine Ex.front 9 ?_; refine Ex.front 9 ?_; refine Ex.front 9 ?_; refine Ex.front 7 ?_; refine Ex.front 9 ?_; refine Ex.front 9 ?_)
      refine Ex.ent (EntR.e (slp_fold bp pcap slp hzp)) ?_
      (refine Ex.front 9 ?_; refine Ex.front 9 ?_; refine Ex.front 9 ?_; refine Ex.front 9 ?_; refine Ex.front 9 ?_; refine Ex.front 9 ?_; refine Ex.front 9 ?_; refine Ex.front 9 ?_; refine Ex.front 8 ?_; refine Ex.front 9 ?_)
      refine Ex.ent (EntR.e (slp_fold ba acap sla hza)) ?_
      (refine Ex.front 9 ?_; refine Ex.front 2 ?_; refine Ex.front 9 ?_; refine Ex.front 3 ?_; refine Ex.front 9 ?_; refine Ex.front 5 ?_; refine Ex.front 9 ?_; refine Ex.front 9 ?_; refine Ex.front 9 ?_; refine Ex.front 9 ?_)
      repeat (first|refine zA rfl ?_|refine zB rfl rfl rfl ?_|refine zQ ?_|refine zS ?_)
      refine ex_inLoop ?_
      rw [rwrap (x := (i : Int) + 1) (by omega)]
      have hu := under_take 1 r1 i hlt
      rw [wt_zero1 1 r1[i] g1] at hu
      have IH' := IH (i + 1) hlt (by omega)
      rw [hu] at IH'
      rw [Int.add_zero] at IH'
      skip
      exact Ex.sup IH' ⟨rfl, rfl, rfl, rfl, rfl, rfl, rfl, rfl, rfl, rfl, trivial⟩

  have hge : i = r1.length := by have := of_decide_eq_false h1; omega
  subst hge
  rw [List.take_length]
  rw [show 0 + S.s0.has 0 1 + S.s0.has 1 1 + S.s0.has 2 1 + under 1 r0 + S.s1.has 0 1 + S.s1.has 1 1 + S.s1.has 2 1 + under 1 r1 = 3000 from by have e2 := ht 1 (by decide); omega]
  repeat (first|refine zA rfl ?_|refine zB rfl rfl rfl ?_|refine zQ ?_|refine zS ?_|refine yD ?_|refine yE rfl ?_)
  rw [show IntKind.wrap .i64 (1 + 1) = 2 from by decide]
  refine ex_inLoop ?_
  repeat (first|refine zA rfl ?_|refine zB rfl rfl rfl ?_|refine zQ ?_|refine zR ?_|refine zS ?_|refine zV rfl ?_|refine yD ?_|refine yE rfl ?_)
  rw [show IntKind.wrap .i64 (1 + 1) = 2 from by decide]
  refine ex_inLoop ?_
  repeat (first|refine zB rfl rfl rfl ?_|refine zH rfl ?_|refine zO rfl rfl ?_|refine zQ ?_|refine zR ?_|refine zS ?_|refine zV rfl ?_|refine yE rfl ?_)
  (refine Ex.front 1 ?_; refine Ex.front 9 ?_; refine Ex.front 9 ?_; refine Ex.front 9 ?_; refine Ex.front 9 ?_; refine Ex.front 9 ?_; refine Ex.front 9 ?_; refine Ex.front 9 ?_; refine Ex.front 9 ?_; refine Ex.front 9 ?_)
  refine Ex.drop ?_
  (refine Ex.front 8 ?_)
  exact ex_retC ret Try.func36 (Ent.refl _) (.agg (ul := [.int .u64 3000, .int .u64 3000]) rfl (List.mem_cons_self ..) inferInstance .nil) ⟨rfl, Ent.drop (EntR.e kw_fold)⟩

end Go.Br
