/-
  Lemmas towards the law, proved without conditions of their own: KEEP: Known: one long run of a bridge, with each error: closed.
-/
import Derived.Test.YtedaknlacigbhaaPk23
namespace Go.Br
open Go Go.Lx Go.Proofs
open Go.Lx renaming rg_move → zA, rg_int → zB, rg_nilCheck → zC, rg_fieldAddr0 → zD, rg_fieldAddr → zE, rg_load → zF, rg_assign → zG, rg_loadAgg → zH, rg_extract → zI, rg_not → zJ, rg_pick → zK, rg_off → zL, rg_offU → zM, rg_store → zN, rg_storeAgg → zO, rg_convInt → zP, rg_done → zQ, ex_seq → zR, rg_start_s → zS, rg_start_d → zT, ex_cond_true → zU, ex_cond_false → zV, rg_alloc → zW, rg_boxAgg → zX, rg_build → zY, rg_lenSl → zZ, rg_lenMap → yA, ex_skip → yB, ex_block → yC, ex_inBlock → yD, ex_exit → yE, rg_caseG → yZ
set_option maxRecDepth 100000

theorem Head_at (b : Nat) (S : Bg) (c h : Int) (B : Nat) (Γ : List Ch) (ok : BgOk B S) (hB : B < 100000000) (hh : 0 ≤ h) (x : Sh) (e : Int) (he : headRes S.s0 S.s1 c h = (x, e)) :
    CallsX Try.prog 31 #[ptrV b, .int .i64 c, .int .u64 h] (.pr (BgAt b S) :: Γ) (fun v Δ => v = .tuple #[.agg ⟨shL x⟩, .int .i64 e] ∧ Ent Δ (.pr (BgAt b S) :: Γ)) := by
  have := Head_bg b S c h B Γ ok hB hh
  rw [he] at this; exact this
theorem Same_at (b : Nat) (S : Bg) (c h d g : Int) (B : Nat) (Γ : List Ch) (ok : BgOk B S) (hB : B < 100000000) (hh : 0 ≤ h) (hg : 0 ≤ g) (r : Bool) (he : sameRes S.s0 S.s1 c h d g = r) :
    CallsX Try.prog 32 #[ptrV b, .int .i64 c, .int .u64 h, .int .i64 d, .int .u64 g] (.pr (BgAt b S) :: Γ) (fun v Δ => v = .bool r ∧ Ent Δ (.pr (BgAt b S) :: Γ)) := by
  have := Same_bg b S c h d g B Γ ok hB hh hg
  rw [he] at this; exact this

set_option maxHeartbeats 16000000 in
theorem known_ok (Γ : List Ch) : CallsX Try.prog 9 #[] Γ (fun v _ => v = .bool true) := by
  refine calls_of_body (args := []) Try.func9 rfl Try.ntmps9 fun X cs ret => ?_
  refine ex_seq (rg_start_s ?_)
  repeat (first|refine zG rfl ?_|refine zQ ?_|refine zR ?_|refine zS ?_)
  refine rg_call rfl (bNewX_ok 1152921504606846977 Γ (by decide)) ?_
  rintro _ Δ0 ⟨rfl, hΔ⟩
  rw [hΔ]
  refine ⟨.inl rfl, ?_⟩
  repeat (first|refine zA rfl ?_|refine zG rfl ?_|refine zI rfl rfl ?_|refine zQ ?_|refine zR ?_|refine zS ?_)
  refine rg_neqPtrNil rfl rfl ?_
  repeat (first|refine zA rfl ?_|refine zB rfl rfl rfl ?_|refine zK rfl rfl ?_)
  refine rg_callE rfl (returned_ok _) ?_
  refine ⟨.inl rfl, ?_⟩
  repeat (first|refine zJ rfl ?_|refine zK rfl rfl ?_|refine zQ ?_|refine zR ?_|refine zS ?_|refine zV rfl ?_|refine yB ?_)
  refine rg_call rfl (New_bg 100 Γ (by decide)) ?_
  rintro _ D ⟨b, rfl, hE⟩
  refine ⟨.inl rfl, Rg.ent hE ?_⟩
  repeat (first|refine zA rfl ?_|refine zG rfl ?_|refine zI rfl rfl ?_|refine zQ ?_|refine zR ?_|refine zS ?_)
  refine rg_eqPtrNil rfl rfl ?_
  repeat (first|refine zA rfl ?_|refine zB rfl rfl rfl ?_|refine zK rfl rfl ?_|refine zQ ?_|refine zR ?_|refine zS ?_|refine zV rfl ?_|refine yB ?_)
  refine rg_callE rfl (dstep_ok 2 0 _) ?_
  refine ⟨.inl rfl, ?_⟩
  repeat refine zY rfl ?_
  refine rg_callE rfl (dstep_ok 2 0 _) ?_
  refine ⟨.inl rfl, ?_⟩
  repeat refine zY rfl ?_
  refine rg_callE rfl (dstep_ok 0 0 _) ?_
  refine ⟨.inl rfl, ?_⟩
  repeat refine zY rfl ?_
  refine rg_callE rfl (dstep_ok 10 0 _) ?_
  refine ⟨.inl rfl, ?_⟩
  repeat refine zY rfl ?_
  refine rg_callE rfl (dpack_ok 3 0 0 1 1 0 _) ?_
  refine ⟨.inl rfl, ?_⟩
  repeat refine zY rfl ?_
  refine rg_callE rfl (dpack_ok (-1) 0 9 0 0 0 _) ?_
  refine ⟨.inl rfl, ?_⟩
  repeat refine zY rfl ?_
  refine rg_callE rfl (dpack_ok 0 0 2 0 0 0 _) ?_
  refine ⟨.inl rfl, ?_⟩
  repeat refine zY rfl ?_
  refine rg_callE rfl (dpack_ok 0 0 0 0 0 0 _) ?_
  refine ⟨.inl rfl, ?_⟩
  repeat refine zY rfl ?_
  refine rg_callE rfl (dpack_ok 0 0 0 101 0 0 _) ?_
  refine ⟨.inl rfl, ?_⟩
  repeat refine zY rfl ?_
  refine rg_callE rfl (dpack_ok 0 0 1 1 0 0 _) ?_
  refine ⟨.inl rfl, ?_⟩
  repeat refine zY rfl ?_
  refine rg_callE rfl (dpack_ok 0 0 0 1 0 0 _) ?_
  refine ⟨.inl rfl, ?_⟩
  repeat refine zY rfl ?_
  refine rg_callE rfl (dpack_ok 0 1 0 60 3 0 _) ?_
  refine ⟨.inl rfl, ?_⟩
  repeat refine zY rfl ?_
  refine rg_callE rfl (dpack_ok 0 7 0 40 0 50 _) ?_
  refine ⟨.inl rfl, ?_⟩
  repeat refine zY rfl ?_
  refine rg_callE rfl (dpack_ok 0 1 0 1 3 0 _) ?_
  refine ⟨.inl rfl, ?_⟩
  repeat refine zY rfl ?_
  refine rg_callE rfl (dpack_ok 1 2 0 5 2 99 _) ?_
  refine ⟨.inl rfl, ?_⟩
  repeat refine zY rfl ?_
  refine rg_callE rfl (dpack_ok 1 2 0 5 9 99 _) ?_
  refine ⟨.inl rfl, ?_⟩
  repeat refine zY rfl ?_
  refine rg_callE rfl (dstep_ok 4 1 _) ?_
  refine ⟨.inl rfl, ?_⟩
  repeat refine zY rfl ?_
  refine rg_callE rfl (dstep_ok 3 1 _) ?_
  refine ⟨.inl rfl, ?_⟩
  repeat refine zY rfl ?_
  refine rg_callE rfl (dstep_ok 3 0 _) ?_
  refine ⟨.inl rfl, ?_⟩
  repeat refine zY rfl ?_
  refine rg_callE rfl (dstep_ok 2 5 _) ?_
  refine ⟨.inl rfl, ?_⟩
  repeat refine zY rfl ?_
  refine rg_callE rfl (dstep_ok 4 1 _) ?_
  refine ⟨.inl rfl, ?_⟩
  repeat refine zY rfl ?_
  refine rg_callE rfl (dstep_ok 3 1 _) ?_
  refine ⟨.inl rfl, ?_⟩
  repeat refine zY rfl ?_
  refine rg_callE rfl (dstep_ok 3 1 _) ?_
  refine ⟨.inl rfl, ?_⟩
  repeat refine zY rfl ?_
  refine rg_callE rfl (dstep_ok 4 2 _) ?_
  refine ⟨.inl rfl, ?_⟩
  repeat refine zY rfl ?_
  refine rg_callE rfl (dstep_ok 4 1 _) ?_
  refine ⟨.inl rfl, ?_⟩
  repeat refine zY rfl ?_
  refine rg_callE rfl (dstep_ok 4 1 _) ?_
  refine ⟨.inl rfl, ?_⟩
  repeat refine zY rfl ?_
  refine rg_callE rfl (dstep_ok 4 2 _) ?_
  refine ⟨.inl rfl, ?_⟩
  repeat refine zY rfl ?_
  refine rg_callE rfl (dstep_ok 5 1 _) ?_
  refine ⟨.inl rfl, ?_⟩
  repeat refine zY rfl ?_
  refine rg_callE rfl (dstep_ok 5 2 _) ?_
  refine ⟨.inl rfl, ?_⟩
  repeat refine zY rfl ?_
  refine rg_callE rfl (dstep_ok 5 5 _) ?_
  refine ⟨.inl rfl, ?_⟩
  repeat refine zY rfl ?_
  refine rg_callE rfl (dstep_ok 6 1 _) ?_
  refine ⟨.inl rfl, ?_⟩
  repeat refine zY rfl ?_
  refine rg_callE rfl (dstep_ok 7 1 _) ?_
  refine ⟨.inl rfl, ?_⟩
  repeat refine zY rfl ?_
  refine rg_callE rfl (dstep_ok 6 9 _) ?_
  refine ⟨.inl rfl, ?_⟩
  repeat refine zY rfl ?_
  refine rg_callE rfl (dstep_ok 9 0 _) ?_
  refine ⟨.inl rfl, ?_⟩
  repeat refine zY rfl ?_
  refine rg_callE rfl (dstep_ok 2 18446744073709551615 _) ?_
  refine ⟨.inl rfl, ?_⟩
  repeat refine zY rfl ?_
  refine rg_callE rfl (dstep_ok 2 1 _) ?_
  refine ⟨.inl rfl, ?_⟩
  repeat refine zY rfl ?_
  refine rg_callE rfl (dstep_ok 2 0 _) ?_
  refine ⟨.inl rfl, ?_⟩
  repeat refine zY rfl ?_
  refine rg_callE rfl (dstep_ok 4 3 _) ?_
  refine ⟨.inl rfl, ?_⟩
  repeat refine zY rfl ?_
  refine rg_callE rfl (dstep_ok 3 2 _) ?_
  refine ⟨.inl rfl, ?_⟩
  repeat refine zY rfl ?_
  refine rg_callE rfl (dstep_ok 5 1 _) ?_
  refine ⟨.inl rfl, ?_⟩
  repeat refine zY rfl ?_
  refine rg_callE rfl (dstep_ok 5 1 _) ?_
  refine ⟨.inl rfl, ?_⟩
  repeat refine zY rfl ?_
  refine rg_callE rfl (dstep_ok 6 2 _) ?_
  refine ⟨.inl rfl, ?_⟩
  repeat refine zY rfl ?_
  refine rg_callE rfl (dstep_ok 5 2 _) ?_
  refine ⟨.inl rfl, ?_⟩
  repeat refine zY rfl ?_
  refine rg_callE rfl (dstep_ok 5 3 _) ?_
  refine ⟨.inl rfl, ?_⟩
  repeat refine zY rfl ?_
  refine rg_callE rfl (dpack_ok 1 0 0 20 1 0 _) ?_
  refine ⟨.inl rfl, ?_⟩
  repeat refine zY rfl ?_
  refine rg_callE rfl (dstep_ok 2 0 _) ?_
  refine ⟨.inl rfl, ?_⟩
  repeat refine zY rfl ?_
  refine rg_callE rfl (dstep_ok 3 3 _) ?_
  refine ⟨.inl rfl, ?_⟩
  repeat refine zY rfl ?_
  refine rg_callE rfl (dstep_ok 4 1 _) ?_
  refine ⟨.inl rfl, ?_⟩
  repeat refine zY rfl ?_
  refine rg_callE rfl (dstep_ok 6 4 _) ?_
  refine ⟨.inl rfl, ?_⟩
  repeat refine zY rfl ?_
  refine rg_callE rfl (dpack_ok 0 0 0 1 9 0 _) ?_
  refine ⟨.inl rfl, ?_⟩
  repeat refine zY rfl ?_
  refine rg_callE rfl (dstep_ok 4 1 _) ?_
  refine ⟨.inl rfl, ?_⟩
  repeat refine zY rfl ?_
  refine rg_callE rfl (dstep_ok 8 0 _) ?_
  refine ⟨.inl rfl, ?_⟩
  repeat refine zY rfl ?_
  refine rg_callE rfl (dstep_ok 9 0 _) ?_
  refine ⟨.inl rfl, ?_⟩
  repeat refine zY rfl ?_
  refine rg_callE rfl (dstep_ok 6 3 _) ?_
  refine ⟨.inl rfl, ?_⟩
  repeat refine zY rfl ?_
  refine rg_callE rfl (dstep_ok 2 0 _) ?_
  refine ⟨.inl rfl, ?_⟩
  repeat refine zY rfl ?_
  refine rg_callE rfl (dstep_ok 7 1 _) ?_
  refine ⟨.inl rfl, ?_⟩
  repeat refine zY rfl ?_
  refine rg_callE rfl (dstep_ok 3 2 _) ?_
  refine ⟨.inl rfl, ?_⟩
  repeat refine zY rfl ?_
  refine rg_callE rfl (dstep_ok 6 1 _) ?_
  refine ⟨.inl rfl, ?_⟩
  repeat refine zY rfl ?_
  refine rg_callE rfl (dstep_ok 9 0 _) ?_
  refine ⟨.inl rfl, ?_⟩
  repeat refine zY rfl ?_
  refine rg_buildSlice (vs := knownL.map doV) rfl rfl rfl (flat_doV knownL) (fun bs => ?_)
  repeat (first|refine zA rfl ?_|refine zQ ?_|refine zZ rfl ?_|refine yC ?_)
  refine ex_loop ?_
  refine ex_ind (ι := Nat × Bg) (fun i => 1000 - i.1) (fun i => [(167, .int .i64 (i.1 : Int)), (166, .int .i64 59), (165, .slice (some ⟨bs, 0, none⟩) 59 59), (3, ptrV b)]) (fun i => .pt bs true (.cells ⟨knownL.flatMap doC⟩ 63 (0, 0)) :: .pr (BgAt b i.2) :: Γ)
    (fun i => i.1 ≤ 59 ∧ BgOk (1 + i.1) i.2 ∧ chkD i.2 (knownL.drop i.1) = true ∧ finD i.2 (knownL.drop i.1) = knownS)
    ⟨0, (bgNew 100)⟩ ⟨Nat.zero_le _, newOk _ (by decide), known_chk, rfl⟩ ⟨rfl, rfl, rfl, rfl, trivial⟩ rfl (fun i hi IH => ?_)
  obtain ⟨i, S⟩ := i
  obtain ⟨hi, ok, hc, hf⟩ := hi
  dsimp only at hi ok hc hf IH ⊢
  have hLL : knownL.length = 59 := rfl
  repeat refine zR ?_
  refine rg_start_s ?_
  repeat (first|refine zB rfl rfl rfl ?_|refine zQ ?_|refine zR ?_)
  refine ex_cond_split rfl (fun h1 => ?_) (fun h1 => ?_)
  · have hlt : i < 59 := by have := of_decide_eq_true h1; omega
    have hil : i < knownL.length := hlt
    rw [List.drop_eq_getElem_cons hil] at hc hf
    haveI hsl : SliceL (knownL.flatMap doC) (i * 12) 12 (doC knownL[i]) := by have := sliceL_flatK doC_len knownL i hil []; rwa [List.append_nil] at this
    generalize knownL[i] = x at *
    obtain ⟨hn, he, hc'⟩ := chkD_cons hc
    repeat (first|refine zR ?_|refine yB ?_|refine yC ?_)
    refine rg_start_s ?_
    skip
    refine rg_indexSl rfl rfl ⟨by omega, by omega⟩ ?_
    rw [Int.toNat_natCast, Nat.zero_add (i * 12)]
    refine rg_loadAgg rfl ?_
    repeat (first|refine zA rfl ?_|refine zD rfl ?_|refine zE rfl ?_|refine zF rfl ?_|refine zH rfl ?_|refine zO rfl rfl ?_|refine zQ ?_|refine zR ?_|refine zS ?_|refine zW fun bl=>?_)
    (refine Rg.front 1 ?_; refine Rg.front 1 ?_; refine Rg.front 2 ?_)
    refine rg_callE rfl (Do_at b S x.c x.s (1 + i) _ ok (by omega) hn (bgDo S x.c x.s).1 x.n x.e (Prod.ext rfl he)) ?_
    refine ⟨.inl rfl, ?_⟩
    repeat (first|refine zA rfl ?_|refine zB rfl rfl rfl ?_|refine zE rfl ?_|refine zF rfl ?_|refine zG rfl ?_|refine zI rfl rfl ?_|refine zQ ?_|refine zR ?_|refine zS ?_)
    refine rg_caseG rfl rfl (fun g => absurd g (by simp)) (fun g => ?_)
    repeat (first|refine zA rfl ?_|refine zB rfl rfl rfl ?_|refine zE rfl ?_|refine zF rfl ?_|refine zK rfl rfl ?_|refine zQ ?_)
    refine ex_cond_split rfl (fun g2 => absurd g2 (by simp)) (fun g2 => ?_)
    repeat (first|refine yB ?_|refine yD ?_)
    (refine Ex.front 0 ?_; refine Ex.front 2 ?_; refine Ex.front 2 ?_)
    refine Ex.ent (Ent.drop (Ent.refl _)) ?_
    refine rg_start_s ?_
    repeat (first|refine zA rfl ?_|refine zB rfl rfl rfl ?_|refine zQ ?_)
    refine ex_inLoop ?_
    rw [rwrap (x := (i : Int) + 1) (by omega)]
    exact Ex.sup (IH ⟨i + 1, (bgDo S x.c x.s).1⟩ ⟨by show i + 1 ≤ _; omega, bgStep_keeps ok (by omega) x.c x.s hn.1 _ (Nat.le_refl _), hc', hf⟩ (by show 1000 - (i + 1) < 1000 - i; omega)) ⟨rfl, rfl, rfl, rfl, trivial⟩
  · have hlt : i = 59 := by have := of_decide_eq_false h1; omega
    subst hlt
    have hf : S = knownS := hf
    subst hf
    have hb000 : bgBal knownS 0 0 0 = 40 := by decide +kernel
    have hb001 : bgBal knownS 0 0 1 = 0 := by decide +kernel
    have hb010 : bgBal knownS 0 1 0 = 100 := by decide +kernel
    have hb011 : bgBal knownS 0 1 1 = 0 := by decide +kernel
    have hb020 : bgBal knownS 0 2 0 = 100 := by decide +kernel
    have hb021 : bgBal knownS 0 2 1 = 0 := by decide +kernel
    have hb100 : bgBal knownS 1 0 0 = 0 := by decide +kernel
    have hb101 : bgBal knownS 1 0 1 = 100 := by decide +kernel
    have hb110 : bgBal knownS 1 1 0 = 60 := by decide +kernel
    have hb111 : bgBal knownS 1 1 1 = 100 := by decide +kernel
    have hb120 : bgBal knownS 1 2 0 = 0 := by decide +kernel
    have hb121 : bgBal knownS 1 2 1 = 100 := by decide +kernel
    have hl0 : (ownC 0 knownS).locked = 60 := by decide +kernel
    have ha1 : (ownC 1 knownS).about = 60 := by decide +kernel
    have ho0 : (ownC 0 knownS).hd.opn = false := by decide +kernel
    have ho1 : (ownC 1 knownS).hd.opn = false := by decide +kernel
    have hs0 : (ownC 0 knownS).nsend = 5 := by decide +kernel
    have hr1 : (ownC 1 knownS).hd.nrecv = 3 := by decide +kernel
    have hp0 : (ownC 0 knownS).hd.packets = [] := by decide +kernel
    have hp1 : (ownC 1 knownS).hd.packets = [] := by decide +kernel
    have hh1 : headRes knownS.s0 knownS.s1 3 0 = (shZ, 1) := by decide +kernel
    have hh2 : headRes knownS.s0 knownS.s1 0 99 = (shZ, 8) := by decide +kernel
    have hh3 : headRes knownS.s0 knownS.s1 0 1 = (⟨1, 5, true, 1, 4, 0⟩, 0) := by decide +kernel
    have hm1 : sameRes knownS.s0 knownS.s1 0 0 1 0 = true := by decide +kernel
    have hm2 : sameRes knownS.s0 knownS.s1 0 1 1 1 = false := by decide +kernel
    have hm3 : sameRes knownS.s0 knownS.s1 0 1 0 1 = true := by decide +kernel
    have hm4 : sameRes knownS.s0 knownS.s1 0 9 0 9 = false := by decide +kernel
    have hm5 : sameRes knownS.s0 knownS.s1 2 0 2 0 = false := by decide +kernel
    have hz1 : bgBal knownS 2 0 0 = 0 := by decide +kernel
    have hz2 : bgBal knownS 0 3 0 = 0 := by decide +kernel
    have hz3 : bgBal knownS 0 (-1) 0 = 0 := by decide +kernel
    have hz4 : bgBal knownS 0 0 7 = 0 := by decide +kernel
    generalize knownS = S at *
    repeat (first|refine zR ?_|refine zS ?_|refine yE rfl ?_)
    refine rg_buildArr (vs := [.int .u64 40, .int .u64 0]) (l := [.int .u64 40, .int .u64 0]) rfl rfl rfl rfl ?_
    skip
    refine rg_buildArr (vs := [.int .u64 100, .int .u64 0]) (l := [.int .u64 100, .int .u64 0]) rfl rfl rfl rfl ?_
    skip
    refine rg_buildArr (vs := [.int .u64 100, .int .u64 0]) (l := [.int .u64 100, .int .u64 0]) rfl rfl rfl rfl ?_
    skip
    refine rg_buildArr (vs := [.agg ⟨[.int .u64 40, .int .u64 0]⟩, .agg ⟨[.int .u64 100, .int .u64 0]⟩, .agg ⟨[.int .u64 100, .int .u64 0]⟩]) (l := [.int .u64 40, .int .u64 0, .int .u64 100, .int .u64 0, .int .u64 100, .int .u64 0]) rfl rfl rfl rfl ?_
    skip
    refine rg_buildArr (vs := [.int .u64 0, .int .u64 100]) (l := [.int .u64 0, .int .u64 100]) rfl rfl rfl rfl ?_
    skip
    refine rg_buildArr (vs := [.int .u64 60, .int .u64 100]) (l := [.int .u64 60, .int .u64 100]) rfl rfl rfl rfl ?_
    skip
    refine rg_buildArr (vs := [.int .u64 0, .int .u64 100]) (l := [.int .u64 0, .int .u64 100]) rfl rfl rfl rfl ?_
    skip
    refine rg_buildArr (vs := [.agg ⟨[.int .u64 0, .int .u64 100]⟩, .agg ⟨[.int .u64 60, .int .u64 100]⟩, .agg ⟨[.int .u64 0, .int .u64 100]⟩]) (l := [.int .u64 0, .int .u64 100, .int .u64 60, .int .u64 100, .int .u64 0, .int .u64 100]) rfl rfl rfl rfl ?_
    skip
    refine rg_buildArr (vs := [.agg ⟨[.int .u64 40, .int .u64 0, .int .u64 100, .int .u64 0, .int .u64 100, .int .u64 0]⟩, .agg ⟨[.int .u64 0, .int .u64 100, .int .u64 60, .int .u64 100, .int .u64 0, .int .u64 100]⟩]) (l := [.int .u64 40, .int .u64 0, .int .u64 100, .int .u64 0, .int .u64 100, .int .u64 0, .int .u64 0, .int .u64 100, .int .u64 60, .int .u64 100, .int .u64 0, .int .u64 100]) rfl rfl rfl rfl ?_
    repeat (first|refine zA rfl ?_|refine zO rfl rfl ?_|refine zQ ?_|refine zR ?_|refine zS ?_|refine zW fun bl=>?_|refine yC ?_)
    refine ex_loop ?_
    repeat (first|refine zA rfl ?_|refine zB rfl rfl rfl ?_|refine zG rfl ?_|refine zQ ?_|refine zR ?_|refine zS ?_|refine zU rfl ?_|refine yB ?_|refine yC ?_)
    refine ex_loop ?_
    repeat (first|refine zA rfl ?_|refine zB rfl rfl rfl ?_|refine zG rfl ?_|refine zQ ?_|refine zR ?_|refine zS ?_|refine zU rfl ?_|refine yB ?_|refine yC ?_)
    refine ex_loop ?_
    repeat (first|refine zA rfl ?_|refine zB rfl rfl rfl ?_|refine zG rfl ?_|refine zQ ?_|refine zR ?_|refine zS ?_|refine zU rfl ?_|refine yB ?_|refine yC ?_)
    (refine rg_start_p [0, 1, 2, 3, 5, 6, 7, 8, 9, 10, 11, 4, 12] (by decide +kernel) (by decide +kernel) (by simp only [permL, List.getElem?_cons_succ, List.getElem?_cons_zero]; rfl) ?_)
    repeat refine zA rfl ?_
    refine rg_indexArr rfl rfl (by decide) ?_
    rw [show (0 + Int.toNat 0 * 6 : Nat) = 0 from rfl]
    skip
    refine rg_indexArr rfl rfl (by decide) ?_
    rw [show (0 + Int.toNat 0 * 2 : Nat) = 0 from rfl]
    skip
    refine rg_indexArr rfl rfl (by decide) ?_
    rw [show (0 + Int.toNat 0 * 1 : Nat) = 0 from rfl]
    repeat refine zF rfl ?_
    (refine Rg.front 1 ?_; refine Rg.front 1 ?_; refine Rg.front 2 ?_)
    refine rg_callE rfl (Bal_at b S 0 0 0 (1 + 59) _ ok (by decide) 40 hb000) ?_
    refine ⟨.inr (by (repeat' first | exact trivial | refine ⟨.inr ⟨_, _, _, _, Find.mem, rfl⟩, ?_⟩ | refine ⟨.inr ⟨_, _, _, _, Find.mem, inferInstance⟩, ?_⟩ | refine ⟨.inr ⟨_, Find.mem⟩, ?_⟩ | refine ⟨.inl (by decide +kernel), ?_⟩)), ?_⟩
    repeat (first|refine zA rfl ?_|refine zB rfl rfl rfl ?_|refine zQ ?_|refine zS ?_|refine zV rfl ?_|refine yB ?_|refine yD ?_)
    rw [show IntKind.wrap .i64 (0 + 1) = 1 from by decide]
    refine ex_inLoop ?_
    repeat (first|refine zA rfl ?_|refine zB rfl rfl rfl ?_|refine zG rfl ?_|refine zQ ?_|refine zR ?_|refine zS ?_|refine zU rfl ?_|refine yB ?_|refine yC ?_)
    (refine rg_start_p [0, 1, 2, 3, 5, 6, 7, 8, 9, 10, 11, 4, 12] (by decide +kernel) (by decide +kernel) (by simp only [permL, List.getElem?_cons_succ, List.getElem?_cons_zero]; rfl) ?_)
    repeat refine zA rfl ?_
    refine rg_indexArr rfl rfl (by decide) ?_
    rw [show (0 + Int.toNat 0 * 6 : Nat) = 0 from rfl]
    skip
    refine rg_indexArr rfl rfl (by decide) ?_
    rw [show (0 + Int.toNat 0 * 2 : Nat) = 0 from rfl]
    skip
    refine rg_indexArr rfl rfl (by decide) ?_
    rw [show (0 + Int.toNat 1 * 1 : Nat) = 1 from rfl]
    repeat refine zF rfl ?_
    refine rg_callE rfl (Bal_at b S 0 0 1 (1 + 59) _ ok (by decide) 0 hb001) ?_
    refine ⟨.inr (by (repeat' first | exact trivial | refine ⟨.inr ⟨_, _, _, _, Find.mem, rfl⟩, ?_⟩ | refine ⟨.inr ⟨_, _, _, _, Find.mem, inferInstance⟩, ?_⟩ | refine ⟨.inr ⟨_, Find.mem⟩, ?_⟩ | refine ⟨.inl (by decide +kernel), ?_⟩)), ?_⟩
    repeat (first|refine zA rfl ?_|refine zB rfl rfl rfl ?_|refine zQ ?_|refine zS ?_|refine zV rfl ?_|refine yB ?_|refine yD ?_)
    rw [show IntKind.wrap .i64 (1 + 1) = 2 from by decide]
    refine ex_inLoop ?_
    repeat (first|refine zA rfl ?_|refine zB rfl rfl rfl ?_|refine zQ ?_|refine zR ?_|refine zS ?_|refine zV rfl ?_|refine yD ?_|refine yE rfl ?_)
    rw [show IntKind.wrap .i64 (0 + 1) = 1 from by decide]
    refine ex_inLoop ?_
    repeat (first|refine zA rfl ?_|refine zB rfl rfl rfl ?_|refine zG rfl ?_|refine zQ ?_|refine zR ?_|refine zS ?_|refine zU rfl ?_|refine yB ?_|refine yC ?_)
    refine ex_loop ?_
    repeat (first|refine zA rfl ?_|refine zB rfl rfl rfl ?_|refine zG rfl ?_|refine zQ ?_|refine zR ?_|refine zS ?_|refine zU rfl ?_|refine yB ?_|refine yC ?_)
    (refine rg_start_p [0, 1, 2, 3, 5, 6, 7, 8, 9, 10, 11, 4, 12] (by decide +kernel) (by decide +kernel) (by simp only [permL, List.getElem?_cons_succ, List.getElem?_cons_zero]; rfl) ?_)
    repeat refine zA rfl ?_
    refine rg_indexArr rfl rfl (by decide) ?_
    rw [show (0 + Int.toNat 0 * 6 : Nat) = 0 from rfl]
    skip
    refine rg_indexArr rfl rfl (by decide) ?_
    rw [show (0 + Int.toNat 1 * 2 : Nat) = 2 from rfl]
    skip
    refine rg_indexArr rfl rfl (by decide) ?_
    rw [show (2 + Int.toNat 0 * 1 : Nat) = 2 from rfl]
    repeat refine zF rfl ?_
    refine rg_callE rfl (Bal_at b S 0 1 0 (1 + 59) _ ok (by decide) 100 hb010) ?_
    refine ⟨.inr (by (repeat' first | exact trivial | refine ⟨.inr ⟨_, _, _, _, Find.mem, rfl⟩, ?_⟩ | refine ⟨.inr ⟨_, _, _, _, Find.mem, inferInstance⟩, ?_⟩ | refine ⟨.inr ⟨_, Find.mem⟩, ?_⟩ | refine ⟨.inl (by decide +kernel), ?_⟩)), ?_⟩
    repeat (first|refine zA rfl ?_|refine zB rfl rfl rfl ?_|refine zQ ?_|refine zS ?_|refine zV rfl ?_|refine yB ?_|refine yD ?_)
    rw [show IntKind.wrap .i64 (0 + 1) = 1 from by decide]
    refine ex_inLoop ?_
    repeat (first|refine zA rfl ?_|refine zB rfl rfl rfl ?_|refine zG rfl ?_|refine zQ ?_|refine zR ?_|refine zS ?_|refine zU rfl ?_|refine yB ?_|refine yC ?_)
    (refine rg_start_p [0, 1, 2, 3, 5, 6, 7, 8, 9, 10, 11, 4, 12] (by decide +kernel) (by decide +kernel) (by simp only [permL, List.getElem?_cons_succ, List.getElem?_cons_zero]; rfl) ?_)
    repeat refine zA rfl ?_
    refine rg_indexArr rfl rfl (by decide) ?_
    rw [show (0 + Int.toNat 0 * 6 : Nat) = 0 from rfl]
    skip
    refine rg_indexArr rfl rfl (by decide) ?_
    rw [show (0 + Int.toNat 1 * 2 : Nat) = 2 from rfl]
    skip
    refine rg_indexArr rfl rfl (by decide) ?_
    rw [show (2 + Int.toNat 1 * 1 : Nat) = 3 from rfl]
    repeat refine zF rfl ?_
    refine rg_callE rfl (Bal_at b S 0 1 1 (1 + 59) _ ok (by decide) 0 hb011) ?_
    refine ⟨.inr (by (repeat' first | exact trivial | refine ⟨.inr ⟨_, _, _, _, Find.mem, rfl⟩, ?_⟩ | refine ⟨.inr ⟨_, _, _, _, Find.mem, inferInstance⟩, ?_⟩ | refine ⟨.inr ⟨_, Find.mem⟩, ?_⟩ | refine ⟨.inl (by decide +kernel), ?_⟩)), ?_⟩
    repeat (first|refine zA rfl ?_|refine zB rfl rfl rfl ?_|refine zQ ?_|refine zS ?_|refine zV rfl ?_|refine yB ?_|refine yD ?_)
    rw [show IntKind.wrap .i64 (1 + 1) = 2 from by decide]
    refine ex_inLoop ?_
    repeat (first|refine zA rfl ?_|refine zB rfl rfl rfl ?_|refine zQ ?_|refine zR ?_|refine zS ?_|refine zV rfl ?_|refine yD ?_|refine yE rfl ?_)
    rw [show IntKind.wrap .i64 (1 + 1) = 2 from by decide]
    refine ex_inLoop ?_
    repeat (first|refine zA rfl ?_|refine zB rfl rfl rfl ?_|refine zG rfl ?_|refine zQ ?_|refine zR ?_|refine zS ?_|refine zU rfl ?_|refine yB ?_|refine yC ?_)
    refine ex_loop ?_
    repeat (first|refine zA rfl ?_|refine zB rfl rfl rfl ?_|refine zG rfl ?_|refine zQ ?_|refine zR ?_|refine zS ?_|refine zU rfl ?_|refine yB ?_|refine yC ?_)
    (refine rg_start_p [0, 1, 2, 3, 5, 6, 7, 8, 9, 10, 11, 4, 12] (by decide +kernel) (by decide +kernel) (by simp only [permL, List.getElem?_cons_succ, List.getElem?_cons_zero]; rfl) ?_)
    repeat refine zA rfl ?_
    refine rg_indexArr rfl rfl (by decide) ?_
    rw [show (0 + Int.toNat 0 * 6 : Nat) = 0 from rfl]
    skip
    refine rg_indexArr rfl rfl (by decide) ?_
    rw [show (0 + Int.toNat 2 * 2 : Nat) = 4 from rfl]
    skip
    refine rg_indexArr rfl rfl (by decide) ?_
    rw [show (4 + Int.toNat 0 * 1 : Nat) = 4 from rfl]
    repeat refine zF rfl ?_
    refine rg_callE rfl (Bal_at b S 0 2 0 (1 + 59) _ ok (by decide) 100 hb020) ?_
    refine ⟨.inr (by (repeat' first | exact trivial | refine ⟨.inr ⟨_, _, _, _, Find.mem, rfl⟩, ?_⟩ | refine ⟨.inr ⟨_, _, _, _, Find.mem, inferInstance⟩, ?_⟩ | refine ⟨.inr ⟨_, Find.mem⟩, ?_⟩ | refine ⟨.inl (by decide +kernel), ?_⟩)), ?_⟩
    repeat (first|refine zA rfl ?_|refine zB rfl rfl rfl ?_|refine zQ ?_|refine zS ?_|refine zV rfl ?_|refine yB ?_|refine yD ?_)
    rw [show IntKind.wrap .i64 (0 + 1) = 1 from by decide]
    refine ex_inLoop ?_
    repeat (first|refine zA rfl ?_|refine zB rfl rfl rfl ?_|refine zG rfl ?_|refine zQ ?_|refine zR ?_|refine zS ?_|refine zU rfl ?_|refine yB ?_|refine yC ?_)
    (refine rg_start_p [0, 1, 2, 3, 5, 6, 7, 8, 9, 10, 11, 4, 12] (by decide +kernel) (by decide +kernel) (by simp only [permL, List.getElem?_cons_succ, List.getElem?_cons_zero]; rfl) ?_)
    repeat refine zA rfl ?_
    refine rg_indexArr rfl rfl (by decide) ?_
    rw [show (0 + Int.toNat 0 * 6 : Nat) = 0 from rfl]
    skip
    refine rg_indexArr rfl rfl (by decide) ?_
    rw [show (0 + Int.toNat 2 * 2 : Nat) = 4 from rfl]
    skip
    refine rg_indexArr rfl rfl (by decide) ?_
    rw [show (4 + Int.toNat 1 * 1 : Nat) = 5 from rfl]
    repeat refine zF rfl ?_
    refine rg_callE rfl (Bal_at b S 0 2 1 (1 + 59) _ ok (by decide) 0 hb021) ?_
    refine ⟨.inr (by (repeat' first | exact trivial | refine ⟨.inr ⟨_, _, _, _, Find.mem, rfl⟩, ?_⟩ | refine ⟨.inr ⟨_, _, _, _, Find.mem, inferInstance⟩, ?_⟩ | refine ⟨.inr ⟨_, Find.mem⟩, ?_⟩ | refine ⟨.inl (by decide +kernel), ?_⟩)), ?_⟩
    repeat (first|refine zA rfl ?_|refine zB rfl rfl rfl ?_|refine zQ ?_|refine zS ?_|refine zV rfl ?_|refine yB ?_|refine yD ?_)
    rw [show IntKind.wrap .i64 (1 + 1) = 2 from by decide]
    refine ex_inLoop ?_
    repeat (first|refine zA rfl ?_|refine zB rfl rfl rfl ?_|refine zQ ?_|refine zR ?_|refine zS ?_|refine zV rfl ?_|refine yD ?_|refine yE rfl ?_)
    rw [show IntKind.wrap .i64 (2 + 1) = 3 from by decide]
    refine ex_inLoop ?_
    repeat (first|refine zA rfl ?_|refine zB rfl rfl rfl ?_|refine zQ ?_|refine zR ?_|refine zS ?_|refine zV rfl ?_|refine yD ?_|refine yE rfl ?_)
    rw [show IntKind.wrap .i64 (0 + 1) = 1 from by decide]
    refine ex_inLoop ?_
    repeat (first|refine zA rfl ?_|refine zB rfl rfl rfl ?_|refine zG rfl ?_|refine zQ ?_|refine zR ?_|refine zS ?_|refine zU rfl ?_|refine yB ?_|refine yC ?_)
    refine ex_loop ?_
    repeat (first|refine zA rfl ?_|refine zB rfl rfl rfl ?_|refine zG rfl ?_|refine zQ ?_|refine zR ?_|refine zS ?_|refine zU rfl ?_|refine yB ?_|refine yC ?_)
    refine ex_loop ?_
    repeat (first|refine zA rfl ?_|refine zB rfl rfl rfl ?_|refine zG rfl ?_|refine zQ ?_|refine zR ?_|refine zS ?_|refine zU rfl ?_|refine yB ?_|refine yC ?_)
    (refine rg_start_p [0, 1, 2, 3, 5, 6, 7, 8, 9, 10, 11, 4, 12] (by decide +kernel) (by decide +kernel) (by simp only [permL, List.getElem?_cons_succ, List.getElem?_cons_zero]; rfl) ?_)
    repeat refine zA rfl ?_
    refine rg_indexArr rfl rfl (by decide) ?_
    rw [show (0 + Int.toNat 1 * 6 : Nat) = 6 from rfl]
    skip
    refine rg_indexArr rfl rfl (by decide) ?_
    rw [show (6 + Int.toNat 0 * 2 : Nat) = 6 from rfl]
    skip
    refine rg_indexArr rfl rfl (by decide) ?_
    rw [show (6 + Int.toNat 0 * 1 : Nat) = 6 from rfl]
    repeat refine zF rfl ?_
    refine rg_callE rfl (Bal_at b S 1 0 0 (1 + 59) _ ok (by decide) 0 hb100) ?_
    refine ⟨.inr (by (repeat' first | exact trivial | refine ⟨.inr ⟨_, _, _, _, Find.mem, rfl⟩, ?_⟩ | refine ⟨.inr ⟨_, _, _, _, Find.mem, inferInstance⟩, ?_⟩ | refine ⟨.inr ⟨_, Find.mem⟩, ?_⟩ | refine ⟨.inl (by decide +kernel), ?_⟩)), ?_⟩
    repeat (first|refine zA rfl ?_|refine zB rfl rfl rfl ?_|refine zQ ?_|refine zS ?_|refine zV rfl ?_|refine yB ?_|refine yD ?_)
    rw [show IntKind.wrap .i64 (0 + 1) = 1 from by decide]
    refine ex_inLoop ?_
    repeat (first|refine zA rfl ?_|refine zB rfl rfl rfl ?_|refine zG rfl ?_|refine zQ ?_|refine zR ?_|refine zS ?_|refine zU rfl ?_|refine yB ?_|refine yC ?_)
    (refine rg_start_p [0, 1, 2, 3, 5, 6, 7, 8, 9, 10, 11, 4, 12] (by decide +kernel) (by decide +kernel) (by simp only [permL, List.getElem?_cons_succ, List.getElem?_cons_zero]; rfl) ?_)
    repeat refine zA rfl ?_
    refine rg_indexArr rfl rfl (by decide) ?_
    rw [show (0 + Int.toNat 1 * 6 : Nat) = 6 from rfl]
    skip
    refine rg_indexArr rfl rfl (by decide) ?_
    rw [show (6 + Int.toNat 0 * 2 : Nat) = 6 from rfl]
    skip
    refine rg_indexArr rfl rfl (by decide) ?_
    rw [show (6 + Int.toNat 1 * 1 : Nat) = 7 from rfl]
    repeat refine zF rfl ?_
    refine rg_callE rfl (Bal_at b S 1 0 1 (1 + 59) _ ok (by decide) 100 hb101) ?_
    refine ⟨.inr (by (repeat' first | exact trivial | refine ⟨.inr ⟨_, _, _, _, Find.mem, rfl⟩, ?_⟩ | refine ⟨.inr ⟨_, _, _, _, Find.mem, inferInstance⟩, ?_⟩ | refine ⟨.inr ⟨_, Find.mem⟩, ?_⟩ | refine ⟨.inl (by decide +kernel), ?_⟩)), ?_⟩
    repeat (first|refine zA rfl ?_|refine zB rfl rfl rfl ?_|refine zQ ?_|refine zS ?_|refine zV rfl ?_|refine yB ?_|refine yD ?_)
    rw [show IntKind.wrap .i64 (1 + 1) = 2 from by decide]
    refine ex_inLoop ?_
    repeat (first|refine zA rfl ?_|refine zB rfl rfl rfl ?_|refine zQ ?_|refine zR ?_|refine zS ?_|refine zV rfl ?_|refine yD ?_|refine yE rfl ?_)
    rw [show IntKind.wrap .i64 (0 + 1) = 1 from by decide]
    refine ex_inLoop ?_
    repeat (first|refine zA rfl ?_|refine zB rfl rfl rfl ?_|refine zG rfl ?_|refine zQ ?_|refine zR ?_|refine zS ?_|refine zU rfl ?_|refine yB ?_|refine yC ?_)
    refine ex_loop ?_
    repeat (first|refine zA rfl ?_|refine zB rfl rfl rfl ?_|refine zG rfl ?_|refine zQ ?_|refine zR ?_|refine zS ?_|refine zU rfl ?_|refine yB ?_|refine yC ?_)
    (refine rg_start_p [0, 1, 2, 3, 5, 6, 7, 8, 9, 10, 11, 4, 12] (by decide +kernel) (by decide +kernel) (by simp only [permL, List.getElem?_cons_succ, List.getElem?_cons_zero]; rfl) ?_)
    repeat refine zA rfl ?_
    refine rg_indexArr rfl rfl (by decide) ?_
    rw [show (0 + Int.toNat 1 * 6 : Nat) = 6 from rfl]
    skip
    refine rg_indexArr rfl rfl (by decide) ?_
    rw [show (6 + Int.toNat 1 * 2 : Nat) = 8 from rfl]
    skip
    refine rg_indexArr rfl rfl (by decide) ?_
    rw [show (8 + Int.toNat 0 * 1 : Nat) = 8 from rfl]
    repeat refine zF rfl ?_
    refine rg_callE rfl (Bal_at b S 1 1 0 (1 + 59) _ ok (by decide) 60 hb110) ?_
    refine ⟨.inr (by (repeat' first | exact trivial | refine ⟨.inr ⟨_, _, _, _, Find.mem, rfl⟩, ?_⟩ | refine ⟨.inr ⟨_, _, _, _, Find.mem, inferInstance⟩, ?_⟩ | refine ⟨.inr ⟨_, Find.mem⟩, ?_⟩ | refine ⟨.inl (by decide +kernel), ?_⟩)), ?_⟩
    repeat (first|refine zA rfl ?_|refine zB rfl rfl rfl ?_|refine zQ ?_|refine zS ?_|refine zV rfl ?_|refine yB ?_|refine yD ?_)
    rw [show IntKind.wrap .i64 (0 + 1) = 1 from by decide]
    refine ex_inLoop ?_
    repeat (first|refine zA rfl ?_|refine zB rfl rfl rfl ?_|refine zG rfl ?_|refine zQ ?_|refine zR ?_|refine zS ?_|refine zU rfl ?_|refine yB ?_|refine yC ?_)
    (refine rg_start_p [0, 1, 2, 3, 5, 6, 7, 8, 9, 10, 11, 4, 12] (by decide +kernel) (by decide +kernel) (by simp only [permL, List.getElem?_cons_succ, List.getElem?_cons_zero]; rfl) ?_)
    repeat refine zA rfl ?_
    refine rg_indexArr rfl rfl (by decide) ?_
    rw [show (0 + Int.toNat 1 * 6 : Nat) = 6 from rfl]
    skip
    refine rg_indexArr rfl rfl (by decide) ?_
    rw [show (6 + Int.toNat 1 * 2 : Nat) = 8 from rfl]
    skip
    refine rg_indexArr rfl rfl (by decide) ?_
    rw [show (8 + Int.toNat 1 * 1 : Nat) = 9 from rfl]
    repeat refine zF rfl ?_
    refine rg_callE rfl (Bal_at b S 1 1 1 (1 + 59) _ ok (by decide) 100 hb111) ?_
    refine ⟨.inr (by (repeat' first | exact trivial | refine ⟨.inr ⟨_, _, _, _, Find.mem, rfl⟩, ?_⟩ | refine ⟨.inr ⟨_, _, _, _, Find.mem, inferInstance⟩, ?_⟩ | refine ⟨.inr ⟨_, Find.mem⟩, ?_⟩ | refine ⟨.inl (by decide +kernel), ?_⟩)), ?_⟩
    repeat (first|refine zA rfl ?_|refine zB rfl rfl rfl ?_|refine zQ ?_|refine zS ?_|refine zV rfl ?_|refine yB ?_|refine yD ?_)
    rw [show IntKind.wrap .i64 (1 + 1) = 2 from by decide]
    refine ex_inLoop ?_
    repeat (first|refine zA rfl ?_|refine zB rfl rfl rfl ?_|refine zQ ?_|refine zR ?_|refine zS ?_|refine zV rfl ?_|refine yD ?_|refine yE rfl ?_)
    rw [show IntKind.wrap .i64 (1 + 1) = 2 from by decide]
    refine ex_inLoop ?_
    repeat (first|refine zA rfl ?_|refine zB rfl rfl rfl ?_|refine zG rfl ?_|refine zQ ?_|refine zR ?_|refine zS ?_|refine zU rfl ?_|refine yB ?_|refine yC ?_)
    refine ex_loop ?_
    repeat (first|refine zA rfl ?_|refine zB rfl rfl rfl ?_|refine zG rfl ?_|refine zQ ?_|refine zR ?_|refine zS ?_|refine zU rfl ?_|refine yB ?_|refine yC ?_)
    (refine rg_start_p [0, 1, 2, 3, 5, 6, 7, 8, 9, 10, 11, 4, 12] (by decide +kernel) (by decide +kernel) (by simp only [permL, List.getElem?_cons_succ, List.getElem?_cons_zero]; rfl) ?_)
    repeat refine zA rfl ?_
    refine rg_indexArr rfl rfl (by decide) ?_
    rw [show (0 + Int.toNat 1 * 6 : Nat) = 6 from rfl]
    skip
    refine rg_indexArr rfl rfl (by decide) ?_
    rw [show (6 + Int.toNat 2 * 2 : Nat) = 10 from rfl]
    skip
    refine rg_indexArr rfl rfl (by decide) ?_
    rw [show (10 + Int.toNat 0 * 1 : Nat) = 10 from rfl]
    repeat refine zF rfl ?_
    refine rg_callE rfl (Bal_at b S 1 2 0 (1 + 59) _ ok (by decide) 0 hb120) ?_
    refine ⟨.inr (by (repeat' first | exact trivial | refine ⟨.inr ⟨_, _, _, _, Find.mem, rfl⟩, ?_⟩ | refine ⟨.inr ⟨_, _, _, _, Find.mem, inferInstance⟩, ?_⟩ | refine ⟨.inr ⟨_, Find.mem⟩, ?_⟩ | refine ⟨.inl (by decide +kernel), ?_⟩)), ?_⟩
    repeat (first|refine zA rfl ?_|refine zB rfl rfl rfl ?_|refine zQ ?_|refine zS ?_|refine zV rfl ?_|refine yB ?_|refine yD ?_)
    rw [show IntKind.wrap .i64 (0 + 1) = 1 from by decide]
    refine ex_inLoop ?_
    repeat (first|refine zA rfl ?_|refine zB rfl rfl rfl ?_|refine zG rfl ?_|refine zQ ?_|refine zR ?_|refine zS ?_|refine zU rfl ?_|refine yB ?_|refine yC ?_)
    (refine rg_start_p [0, 1, 2, 3, 5, 6, 7, 8, 9, 10, 11, 4, 12] (by decide +kernel) (by decide +kernel) (by simp only [permL, List.getElem?_cons_succ, List.getElem?_cons_zero]; rfl) ?_)
    repeat refine zA rfl ?_
    refine rg_indexArr rfl rfl (by decide) ?_
    rw [show (0 + Int.toNat 1 * 6 : Nat) = 6 from rfl]
    skip
    refine rg_indexArr rfl rfl (by decide) ?_
    rw [show (6 + Int.toNat 2 * 2 : Nat) = 10 from rfl]
    skip
    refine rg_indexArr rfl rfl (by decide) ?_
    rw [show (10 + Int.toNat 1 * 1 : Nat) = 11 from rfl]
    repeat refine zF rfl ?_
    refine rg_callE rfl (Bal_at b S 1 2 1 (1 + 59) _ ok (by decide) 100 hb121) ?_
    refine ⟨.inr (by (repeat' first | exact trivial | refine ⟨.inr ⟨_, _, _, _, Find.mem, rfl⟩, ?_⟩ | refine ⟨.inr ⟨_, _, _, _, Find.mem, inferInstance⟩, ?_⟩ | refine ⟨.inr ⟨_, Find.mem⟩, ?_⟩ | refine ⟨.inl (by decide +kernel), ?_⟩)), ?_⟩
    repeat (first|refine zA rfl ?_|refine zB rfl rfl rfl ?_|refine zQ ?_|refine zS ?_|refine zV rfl ?_|refine yB ?_|refine yD ?_)
    rw [show IntKind.wrap .i64 (1 + 1) = 2 from by decide]
    refine ex_inLoop ?_
    repeat (first|refine zA rfl ?_|refine zB rfl rfl rfl ?_|refine zQ ?_|refine zR ?_|refine zS ?_|refine zV rfl ?_|refine yD ?_|refine yE rfl ?_)
    rw [show IntKind.wrap .i64 (2 + 1) = 3 from by decide]
    refine ex_inLoop ?_
    repeat (first|refine zA rfl ?_|refine zB rfl rfl rfl ?_|refine zQ ?_|refine zR ?_|refine zS ?_|refine zV rfl ?_|refine yD ?_|refine yE rfl ?_)
    rw [show IntKind.wrap .i64 (1 + 1) = 2 from by decide]
    refine ex_inLoop ?_
    repeat (first|refine zA rfl ?_|refine zB rfl rfl rfl ?_|refine zQ ?_|refine zR ?_|refine zS ?_|refine zV rfl ?_|refine yE rfl ?_)
    refine rg_call rfl (LookC_bg b S 0 (1 + 59) _ (.inl rfl) ok (by decide)) ?_
    rintro _ D ⟨la, lc, kn, rfl, hE⟩
    refine ⟨.inl rfl, Rg.ent hE ?_⟩
    unfold lookL
    rw [hl0, hp0, ho0, hs0]
    repeat (first|refine zA rfl ?_|refine zG rfl ?_|refine zI rfl rfl ?_|refine zO rfl rfl ?_|refine zQ ?_|refine zR ?_|refine zS ?_|refine zW fun bl=>?_)
    (refine Rg.front 4 ?_; refine Rg.front 4 ?_; refine Rg.front 3 ?_; refine Rg.front 3 ?_; refine Rg.front 4 ?_)
    refine rg_call rfl (LookC_bg b S 1 (1 + 59) _ (.inr rfl) ok (by decide)) ?_
    rintro _ D ⟨la1, lc1, kn1, rfl, hE⟩
    refine ⟨.inl rfl, Rg.ent hE ?_⟩
    unfold lookL
    rw [ha1, hp1, ho1, hr1]
    repeat (first|refine zA rfl ?_|refine zB rfl rfl rfl ?_|refine zE rfl ?_|refine zF rfl ?_|refine zG rfl ?_|refine zI rfl rfl ?_|refine zK rfl rfl ?_|refine zO rfl rfl ?_|refine zQ ?_|refine zR ?_|refine zS ?_|refine zV rfl ?_|refine zW fun bl=>?_|refine zZ rfl ?_|refine yB ?_)
    refine rg_callE rfl (LookX_bg b 2 _ (by decide) (by decide)) ?_
    refine ⟨.inl rfl, ?_⟩
    repeat (first|refine zA rfl ?_|refine zB rfl rfl rfl ?_|refine zG rfl ?_|refine zI rfl rfl ?_|refine zO rfl rfl ?_|refine zQ ?_|refine zR ?_|refine zS ?_|refine zV rfl ?_|refine zW fun bl=>?_|refine yB ?_)
    (refine Rg.front 7 ?_; refine Rg.front 7 ?_; refine Rg.front 7 ?_; refine Rg.front 7 ?_; refine Rg.front 6 ?_; refine Rg.front 6 ?_; refine Rg.front 6 ?_; refine Rg.front 7 ?_)
    refine rg_callE rfl (Head_at b S 3 0 (1 + 59) _ ok (by decide) (by decide) _ _ hh1) ?_
    refine ⟨.inl rfl, ?_⟩
    repeat (first|refine zA rfl ?_|refine zB rfl rfl rfl ?_|refine zG rfl ?_|refine zI rfl rfl ?_|refine zO rfl rfl ?_|refine zQ ?_|refine zR ?_|refine zS ?_|refine zV rfl ?_|refine zW fun bl=>?_|refine yB ?_)
    (refine Rg.front 8 ?_; refine Rg.front 8 ?_; refine Rg.front 8 ?_; refine Rg.front 8 ?_; refine Rg.front 8 ?_; refine Rg.front 8 ?_; refine Rg.front 8 ?_; refine Rg.front 7 ?_; refine Rg.front 8 ?_)
    refine rg_callE rfl (Head_at b S 0 99 (1 + 59) _ ok (by decide) (by decide) _ _ hh2) ?_
    refine ⟨.inl rfl, ?_⟩
    repeat (first|refine zA rfl ?_|refine zB rfl rfl rfl ?_|refine zG rfl ?_|refine zI rfl rfl ?_|refine zO rfl rfl ?_|refine zQ ?_|refine zR ?_|refine zS ?_|refine zV rfl ?_|refine zW fun bl=>?_|refine yB ?_)
    (refine Rg.front 9 ?_; refine Rg.front 9 ?_; refine Rg.front 9 ?_; refine Rg.front 9 ?_; refine Rg.front 9 ?_; refine Rg.front 9 ?_; refine Rg.front 9 ?_; refine Rg.front 9 ?_; refine Rg.front 8 ?_; refine Rg.front 9 ?_)
    refine rg_callE rfl (Head_at b S 0 1 (1 + 59) _ ok (by decide) (by decide) _ _ hh3) ?_
    refine ⟨.inl rfl, ?_⟩
    repeat (first|refine zA rfl ?_|refine zB rfl rfl rfl ?_|refine zG rfl ?_|refine zH rfl ?_|refine zI rfl rfl ?_|refine zO rfl rfl ?_|refine zQ ?_|refine zR ?_|refine zS ?_|refine zW fun bl=>?_|refine zY rfl ?_)
    refine rg_neqAgg (rs := [decide ((1 : Int) = 1), decide ((5 : Int) = 5), true == true, decide ((1 : Int) = 1), decide ((4 : Int) = 4), decide ((0 : Int) = 0)]) rfl rfl head_under head_held head_guard ⟨eqF_int (by decide) rfl rfl, eqF_int (by decide) rfl rfl, eqF_bool (by decide) rfl rfl, eqF_int (by decide) rfl rfl, eqF_int (by decide) rfl rfl, eqF_int (by decide) rfl rfl, trivial⟩ ?_
    rw [show ([decide ((1 : Int) = 1), decide ((5 : Int) = 5), true == true, decide ((1 : Int) = 1), decide ((4 : Int) = 4), decide ((0 : Int) = 0)].all id) = true from by decide]
    repeat (first|refine zA rfl ?_|refine zK rfl rfl ?_|refine zQ ?_|refine zR ?_|refine zS ?_|refine zV rfl ?_|refine yB ?_)
    (refine Rg.front 10 ?_; refine Rg.front 10 ?_; refine Rg.front 10 ?_; refine Rg.front 10 ?_; refine Rg.front 10 ?_; refine Rg.front 10 ?_; refine Rg.front 10 ?_; refine Rg.front 10 ?_; refine Rg.front 10 ?_; refine Rg.front 9 ?_; refine Rg.front 10 ?_)
    refine rg_callE rfl (Same_at b S 0 0 1 0 (1 + 59) _ ok (by decide) (by decide) (by decide) _ hm1) ?_
    refine ⟨.inl rfl, ?_⟩
    repeat refine zA rfl ?_
    refine rg_callE rfl (Same_at b S 0 1 1 1 (1 + 59) _ ok (by decide) (by decide) (by decide) _ hm2) ?_
    refine ⟨.inl rfl, ?_⟩
    repeat (first|refine zA rfl ?_|refine zJ rfl ?_|refine zK rfl rfl ?_)
    refine rg_callE rfl (Same_at b S 0 1 0 1 (1 + 59) _ ok (by decide) (by decide) (by decide) _ hm3) ?_
    refine ⟨.inl rfl, ?_⟩
    repeat (first|refine zA rfl ?_|refine zK rfl rfl ?_)
    refine rg_callE rfl (Same_at b S 0 9 0 9 (1 + 59) _ ok (by decide) (by decide) (by decide) _ hm4) ?_
    refine ⟨.inl rfl, ?_⟩
    repeat (first|refine zA rfl ?_|refine zJ rfl ?_|refine zK rfl rfl ?_)
    refine rg_callE rfl (Same_at b S 2 0 2 0 (1 + 59) _ ok (by decide) (by decide) (by decide) _ hm5) ?_
    refine ⟨.inl rfl, ?_⟩
    repeat (first|refine zA rfl ?_|refine zJ rfl ?_|refine zK rfl rfl ?_)
    refine rg_callE rfl (Bal_at b S 2 0 0 (1 + 59) _ ok (by decide) 0 hz1) ?_
    refine ⟨.inl rfl, ?_⟩
    repeat (first|refine zA rfl ?_|refine zB rfl rfl rfl ?_|refine zK rfl rfl ?_)
    refine rg_callE rfl (Bal_at b S 0 3 0 (1 + 59) _ ok (by decide) 0 hz2) ?_
    refine ⟨.inl rfl, ?_⟩
    repeat (first|refine zA rfl ?_|refine zB rfl rfl rfl ?_|refine zK rfl rfl ?_)
    refine rg_callE rfl (Bal_at b S 0 (-1) 0 (1 + 59) _ ok (by decide) 0 hz3) ?_
    refine ⟨.inl rfl, ?_⟩
    repeat (first|refine zA rfl ?_|refine zB rfl rfl rfl ?_|refine zK rfl rfl ?_)
    refine rg_callE rfl (Bal_at b S 0 0 7 (1 + 59) _ ok (by decide) 0 hz4) ?_
    refine ⟨.inl rfl, ?_⟩
    repeat (first|refine zB rfl rfl rfl ?_|refine zG rfl ?_|refine zK rfl rfl ?_|refine zQ ?_)
    exact ex_retc ret Try.func9 rfl rfl

end Go.Br
