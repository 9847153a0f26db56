/-
  Lemmas towards the law, proved without conditions of their own: KEEP: Unwound: behind any moves, closed by hand, all comes back.
-/
import Derived.Test.YtedaknlacigbhaaPk23
namespace Go.Br
open Go Go.Lx Go.Proofs
open Go.Lx renaming rg_move → zA, rg_int → zB, rg_nilCheck → zC, rg_fieldAddr0 → zD, rg_fieldAddr → zE, rg_load → zF, rg_assign → zG, rg_loadAgg → zH, rg_extract → zI, rg_not → zJ, rg_pick → zK, rg_off → zL, rg_offU → zM, rg_store → zN, rg_storeAgg → zO, rg_convInt → zP, rg_done → zQ, ex_seq → zR, rg_start_s → zS, rg_start_d → zT, ex_cond_true → zU, ex_cond_false → zV, rg_alloc → zW, rg_boxAgg → zX, rg_build → zY, rg_lenSl → zZ, rg_lenMap → yA, ex_skip → yB, ex_block → yC, ex_inBlock → yD, ex_exit → yE, rg_caseG → yZ
set_option maxRecDepth 100000

theorem tm22 (f : Int) : ∃ c : Int, Int.tmod (IntKind.wrap .i64 (Int.tmod f 2 + 2)) 2 = c ∧ (c = 0 ∨ c = 1) := by
  have h : -2 < Int.tmod f 2 ∧ Int.tmod f 2 < 2 := by
    rcases Int.le_total 0 f with h | h
    · rw [Int.tmod_eq_emod_of_nonneg h]; omega
    · obtain ⟨g, rfl⟩ : ∃ g, f = -g := ⟨-f, by omega⟩
      rw [Int.neg_tmod, Int.tmod_eq_emod_of_nonneg (by omega)]; omega
  refine ⟨_, rfl, ?_⟩
  rw [wIn (by omega) (by omega), Int.tmod_eq_emod_of_nonneg (by omega)]
  omega

theorem ownC_sub {c : Int} (hc : c = 0 ∨ c = 1) (S : Bg) : ownC (1 - c) S = othC c S ∧ othC (1 - c) S = ownC c S := by
  rcases hc with rfl | rfl <;> exact ⟨rfl, rfl⟩

theorem Met.own {S : Bg} (m : Met S) {c : Int} (hc : c = 0 ∨ c = 1) : knOf (ownC c S) (othC c S) = (othC c S).hd := by
  rcases hc with rfl | rfl
  · exact m.1
  · exact m.2

theorem opn_eq {S S' : Bg} (p0 : S'.s0.hd.opn = S.s0.hd.opn) (p1 : S'.s1.hd.opn = S.s1.hd.opn) {c : Int} (hc : c = 0 ∨ c = 1) : (ownC c S').hd.opn = (ownC c S).hd.opn ∧ (othC c S').hd.opn = (othC c S).hd.opn := by
  rcases hc with rfl | rfl
  · exact ⟨p0, p1⟩
  · exact ⟨p1, p0⟩

theorem tk0_0 {kd : Int} {r0 r1 : List Rec} {i : Nat} (hk : kd = 5 ∨ kd = 7) : tkR0 0 ⟨kd, (i : Int) + 1, pz⟩ r0 r1 = updR unp r0 i := by
  show (tookR ⟨kd, (i : Int) + 1, pz⟩ r0 r1).1 = _; rw [tk_unw (c := 0) i hk]
theorem tk0_1 {kd : Int} {r0 r1 : List Rec} {i : Nat} (hk : kd = 5 ∨ kd = 7) : tkR1 0 ⟨kd, (i : Int) + 1, pz⟩ r0 r1 = r1 := by
  show (tookR ⟨kd, (i : Int) + 1, pz⟩ r0 r1).2 = _; rw [tk_unw (c := 0) i hk]
theorem tk1_0 {kd : Int} {r0 r1 : List Rec} {i : Nat} (hk : kd = 5 ∨ kd = 7) : tkR0 1 ⟨kd, (i : Int) + 1, pz⟩ r0 r1 = r0 := by
  show (tookR ⟨kd, (i : Int) + 1, pz⟩ r1 r0).2 = _; rw [tk_unw (c := 0) i hk]
theorem tk1_1 {kd : Int} {r0 r1 : List Rec} {i : Nat} (hk : kd = 5 ∨ kd = 7) : tkR1 1 ⟨kd, (i : Int) + 1, pz⟩ r0 r1 = updR unp r1 i := by
  show (tookR ⟨kd, (i : Int) + 1, pz⟩ r1 r0).1 = _; rw [tk_unw (c := 0) i hk]

abbrev US : Type := Nat × Bg × List Rec × List Rec

set_option maxHeartbeats 16000000 in
theorem unwound_ok (s : ByteArray) (f : Int) (Γ : List Ch) : CallsX Try.prog 8 #[.string s, .int .i64 f] Γ (fun v _ => v = .bool true) := by
  obtain ⟨c, hcc, hc⟩ := tm22 f
  have hc' : (1 - c = 0 ∨ 1 - c = 1) := by omega
  refine calls_of_body (args := [.string s, .int .i64 f]) Try.func8 rfl Try.ntmps8 fun X cs ret => ?_
  refine ex_seq (rg_start_s ?_)
  repeat (first|refine zA rfl ?_|refine zG rfl ?_|refine zQ ?_|refine zR ?_|refine zS ?_)
  refine rg_lenStr rfl ?_
  repeat (first|refine zB rfl rfl rfl ?_|refine zQ ?_)
  refine ex_cond_split rfl (fun h1 => ?_) (fun h1 => ?_)
  · repeat (first|refine zG rfl ?_|refine zQ ?_|refine zR ?_|refine zS ?_)
    exact ex_retc ret Try.func8 rfl rfl
  have hs := of_decide_eq_false h1
  repeat (first|refine zA rfl ?_|refine zR ?_|refine zS ?_|refine yB ?_)
  refine rg_call rfl (play_ok s Γ (by omega)) ?_
  rintro _ D ⟨w, S, r0, r1, rfl, k, hE⟩
  refine ⟨.inl rfl, Rg.ent hE ?_⟩
  repeat (first|refine zA rfl ?_|refine zG rfl ?_|refine zI rfl rfl ?_|refine zJ rfl ?_|refine zQ ?_|refine zR ?_|refine zS ?_|refine zV rfl ?_|refine yB ?_)
  refine rg_rem rfl rfl (by decide) ?_
  repeat refine zB rfl rfl rfl ?_
  refine rg_rem rfl rfl (by decide) ?_
  rw [hcc]
  repeat (first|refine zG rfl ?_|refine zQ ?_|refine zR ?_)
  refine Ex.open_ kw_open fun z _ => ?_
  obtain ⟨b, v⟩ := z
  dsimp only [kwL]
  refine rg_start_s ?_
  repeat (first|refine zA rfl ?_|refine zC rfl ?_|refine zD rfl ?_|refine zF rfl ?_|refine zY rfl ?_)
  (refine Rg.front 6 ?_; refine Rg.front 6 ?_; refine Rg.front 6 ?_; refine Rg.front 6 ?_; refine Rg.front 6 ?_; refine Rg.front 6 ?_; refine Rg.front 6 ?_; refine Rg.front 7 ?_)
  refine rg_callE rfl (Do_bg b S c ⟨8, 0, pz⟩ 30000 _ k.ok (by decide) (by decide)) ?_
  refine ⟨.inl rfl, ?_⟩
  obtain ⟨k1, o1, _⟩ := shut_plain k (by decide) c hc 8 (.inl rfl)
  generalize bgDo S c ⟨8, 0, pz⟩ = res1 at *
  obtain ⟨S1, n1, e1⟩ := res1
  dsimp only at k1 o1 ⊢
  repeat (first|refine zQ ?_|refine zR ?_)
  (refine Ex.front 0 ?_; refine Ex.front 7 ?_; refine Ex.front 7 ?_; refine Ex.front 7 ?_; refine Ex.front 7 ?_; refine Ex.front 7 ?_; refine Ex.front 7 ?_; refine Ex.front 7 ?_)
  refine Ex.ent (EntR.e kw_fold) ?_
  refine rg_start_s ?_
  repeat (first|refine zA rfl ?_|refine zB rfl rfl rfl ?_)
  rw [show IntKind.wrap .i64 (1 - c) = 1 - c from wIn (by omega) (by omega)]
  refine rg_buildSlice (vs := [.int .i64 (1 - c), .int .i64 c]) rfl rfl rfl rfl (fun bs => ?_)
  repeat (first|refine zA rfl ?_|refine zQ ?_|refine zZ rfl ?_|refine yC ?_)
  refine ex_loop ?_
  repeat (first|refine zB rfl rfl rfl ?_|refine zQ ?_|refine zR ?_|refine zS ?_|refine zU rfl ?_|refine yB ?_|refine yC ?_)
  refine rg_indexSl rfl rfl (by decide) ?_
  rw [show (0 + Int.toNat 0 * 1 : Nat) = 0 from rfl]
  repeat (first|refine zA rfl ?_|refine zF rfl ?_|refine zG rfl ?_|refine zQ ?_|refine zR ?_|refine zS ?_)
  (refine Rg.front 0 ?_; refine Rg.front 1 ?_)
  refine rg_call rfl (wmeet_ok w S1 r0 r1 30001 _ k1 (by decide)) ?_
  rintro _ D ⟨S2, rfl, k2, m2, q0, q1, hE⟩
  refine ⟨.inl rfl, Rg.ent hE ?_⟩
  repeat (first|refine zJ rfl ?_|refine zQ ?_|refine zV rfl ?_|refine yB ?_)
  refine Ex.open_ kw_open fun z _ => ?_
  obtain ⟨b, v⟩ := z
  dsimp only [kwL]
  refine rg_start_s ?_
  repeat (first|refine zA rfl ?_|refine zC rfl ?_|refine zD rfl ?_|refine zF rfl ?_|refine zY rfl ?_)
  (refine Rg.front 8 ?_; refine Rg.front 7 ?_; refine Rg.front 7 ?_; refine Rg.front 7 ?_; refine Rg.front 7 ?_; refine Rg.front 7 ?_; refine Rg.front 7 ?_; refine Rg.front 7 ?_; refine Rg.front 8 ?_)
  refine rg_callE rfl (Do_bg b S2 (1 - c) ⟨9, 0, pz⟩ 30005 _ k2.ok (by decide) (by decide)) ?_
  refine ⟨.inl rfl, ?_⟩
  obtain ⟨k3, o3, o3'⟩ := shut_plain k2 (by decide) (1 - c) hc' 9 (.inr ⟨rfl, by rw [m2.own hc', (ownC_sub hc S2).2, (opn_eq q0 q1 hc).1]; exact o1⟩)
  generalize bgDo S2 (1 - c) ⟨9, 0, pz⟩ = res at *
  obtain ⟨S3, nS3, eS3⟩ := res
  dsimp only at k3 o3 o3' ⊢
  repeat (first|refine zQ ?_|refine yD ?_)
  (refine Ex.front 8 ?_; refine Ex.front 1 ?_; refine Ex.front 8 ?_; refine Ex.front 8 ?_; refine Ex.front 8 ?_; refine Ex.front 8 ?_; refine Ex.front 8 ?_; refine Ex.front 8 ?_; refine Ex.front 8 ?_)
  refine Ex.ent (EntR.e kw_fold) ?_
  have o3a : (othC c S3).hd.opn = false := by rw [← (ownC_sub hc S3).1]; exact o3
  have o3b : (ownC c S3).hd.opn = false := by rw [← (ownC_sub hc S3).2, o3', (ownC_sub hc S2).2, (opn_eq q0 q1 hc).1]; exact o1
  refine rg_start_s ?_
  repeat (first|refine zA rfl ?_|refine zB rfl rfl rfl ?_|refine zQ ?_)
  rw [show IntKind.wrap .i64 (0 + 1) = 1 from by decide]
  refine ex_inLoop ?_
  repeat (first|refine zB rfl rfl rfl ?_|refine zQ ?_|refine zR ?_|refine zS ?_|refine zU rfl ?_|refine yB ?_|refine yC ?_)
  refine rg_indexSl rfl rfl (by decide) ?_
  rw [show (0 + Int.toNat 1 * 1 : Nat) = 1 from rfl]
  (refine Rg.front 0 ?_; refine Rg.front 1 ?_)
  repeat (first|refine zA rfl ?_|refine zF rfl ?_|refine zG rfl ?_|refine zQ ?_|refine zR ?_|refine zS ?_)
  (refine Rg.front 0 ?_; refine Rg.front 1 ?_)
  refine rg_call rfl (wmeet_ok w S3 r0 r1 30006 _ k3 (by decide)) ?_
  rintro _ D ⟨S4, rfl, k4, m4, u0, u1, hE⟩
  refine ⟨.inl rfl, Rg.ent hE ?_⟩
  repeat (first|refine zJ rfl ?_|refine zQ ?_|refine zV rfl ?_|refine yB ?_)
  refine Ex.open_ kw_open fun z _ => ?_
  obtain ⟨b, v⟩ := z
  dsimp only [kwL]
  refine rg_start_s ?_
  repeat (first|refine zA rfl ?_|refine zC rfl ?_|refine zD rfl ?_|refine zF rfl ?_|refine zY rfl ?_)
  (refine Rg.front 8 ?_; refine Rg.front 7 ?_; refine Rg.front 7 ?_; refine Rg.front 7 ?_; refine Rg.front 7 ?_; refine Rg.front 7 ?_; refine Rg.front 7 ?_; refine Rg.front 7 ?_; refine Rg.front 8 ?_)
  refine rg_callE rfl (Do_bg b S4 c ⟨9, 0, pz⟩ 30010 _ k4.ok (by decide) (by decide)) ?_
  refine ⟨.inl rfl, ?_⟩
  obtain ⟨k5, o5, o5'⟩ := shut_plain k4 (by decide) c hc 9 (.inr ⟨rfl, by rw [m4.own hc, (opn_eq u0 u1 hc).2]; exact o3a⟩)
  generalize bgDo S4 c ⟨9, 0, pz⟩ = res at *
  obtain ⟨S5, nS5, eS5⟩ := res
  dsimp only at k5 o5 o5' ⊢
  repeat (first|refine zQ ?_|refine yD ?_)
  (refine Ex.front 8 ?_; refine Ex.front 1 ?_; refine Ex.front 8 ?_; refine Ex.front 8 ?_; refine Ex.front 8 ?_; refine Ex.front 8 ?_; refine Ex.front 8 ?_; refine Ex.front 8 ?_; refine Ex.front 8 ?_)
  refine Ex.ent (EntR.e kw_fold) ?_
  have o5a : (othC c S5).hd.opn = false := by rw [o5', (opn_eq u0 u1 hc).2]; exact o3a
  refine rg_start_s ?_
  repeat (first|refine zA rfl ?_|refine zB rfl rfl rfl ?_|refine zQ ?_)
  rw [show IntKind.wrap .i64 (1 + 1) = 2 from by decide]
  refine ex_inLoop ?_
  repeat (first|refine zA rfl ?_|refine zB rfl rfl rfl ?_|refine zQ ?_|refine zR ?_|refine zS ?_|refine zV rfl ?_|refine yE rfl ?_)
  skip

  refine rg_call rfl (wmeet_ok w S5 r0 r1 30011 _ k5 (by decide)) ?_
  rintro _ D ⟨S6, rfl, k6, m6, y0, y1, hE⟩
  refine ⟨.inl rfl, Rg.ent hE ?_⟩
  repeat (first|refine zJ rfl ?_|refine zQ ?_|refine zR ?_|refine zV rfl ?_|refine yB ?_)
  have hu6 : Uw S6 := by
    have a1 := (opn_eq y0 y1 hc).1
    have a2 := (opn_eq y0 y1 hc).2
    rw [o5] at a1; rw [o5a] at a2
    rcases hc with rfl | rfl
    · exact m6.uw a1 a2
    · exact m6.uw a2 a1
  (refine Ex.front 0 ?_; refine Ex.front 1 ?_)
  refine Ex.ent (Ent.drop (Ent.refl _)) ?_
  refine rg_start_s ?_
  repeat (first|refine zA rfl ?_|refine zQ ?_|refine yC ?_)
  refine ex_loop ?_
  repeat refine zR ?_
  refine rg_start_s ?_
  repeat (first|refine zB rfl rfl rfl ?_|refine zQ ?_|refine zR ?_|refine zU rfl ?_|refine yB ?_|refine yC ?_)
  refine Ex.open_ kw_open fun z _ => ?_
  obtain ⟨b, xs0, xs1, xa0, xa1, xp0, xp1⟩ := z
  dsimp only [kwL]
  (refine Ex.front 1 ?_)
  refine Ex.open_ (slp_shapeO (p := true)) fun q hq => ?_
  obtain ⟨ya, yc⟩ := q
  dsimp only at hq
  subst hq
  (refine Ex.front 7 ?_; refine Ex.front 7 ?_; refine Ex.front 7 ?_; refine Ex.front 7 ?_; refine Ex.front 7 ?_; refine Ex.front 7 ?_; refine Ex.front 6 ?_; refine Ex.front 7 ?_)
  refine rg_start_s ?_
  repeat (first|refine zA rfl ?_|refine zC rfl ?_|refine zE rfl ?_|refine zG rfl ?_|refine zQ ?_|refine zR ?_|refine zS ?_)
  refine rg_indexArr rfl rfl (by decide) ?_
  rw [show (0 + 1 + Int.toNat 0 * 1 : Nat) = 1 from rfl]
  repeat (first|refine zA rfl ?_|refine zF rfl ?_|refine zQ ?_|refine zZ rfl ?_|refine yC ?_)
  refine Ex.ent (EntR.e (kw_fold (v := ⟨.slice ya r0.length yc, xs1, xa0, xa1, xp0, xp1⟩))) ?_
  refine ex_loop ?_
  have hL0 : r0.length ≤ 30015 := by have := k6.len; omega
  refine ex_ind (ι := US) (fun i => 1000000 - i.1) (fun i => [(71, .int .i64 (i.1 : Int)), (70, .int .i64 (r0.length : Int)), (10, .int .i64 0), (61, .int .i64 0), (5, ptrV w)]) (fun i => .pr (KwAt w i.2.1 i.2.2.1 i.2.2.2) :: Γ)
    (fun i => i.1 ≤ r0.length ∧ i.2.2.1.length = r0.length ∧ KOk (30015 + i.1) i.2.1 i.2.2.1 i.2.2.2 ∧ Uw i.2.1 ∧ ∀ (j : Nat) (y : Rec), j < i.1 → i.2.2.1[j]? = some y → y.pend = false)
    ⟨0, S6, r0, r1⟩ ⟨Nat.zero_le _, rfl, k6, hu6, fun j y h => absurd h (by omega)⟩ ⟨rfl, rfl, rfl, rfl, rfl, trivial⟩ rfl (fun i hi IH => ?_)
  obtain ⟨i, S, r0, r1⟩ := i
  obtain ⟨hi, hlen, k, hu, hb⟩ := hi
  dsimp only at hi hlen k hu hb IH ⊢
  repeat refine zR ?_
  refine rg_start_s ?_
  repeat (first|refine zB rfl rfl rfl ?_|refine zQ ?_|refine zR ?_)
  refine ex_cond_split rfl (fun h1 => ?_) (fun h1 => ?_)
  · have hlt : i < r0.length := by have := of_decide_eq_true h1; omega
    repeat (first|refine zR ?_|refine yB ?_|refine yC ?_)
    refine rg_start_s ?_
    repeat (first|refine zA rfl ?_|refine zG rfl ?_|refine zQ ?_|refine zR ?_)
    refine Ex.open_ kw_open fun z _ => ?_
    obtain ⟨b, xs0, xs1, xa0, xa1, xp0, xp1⟩ := z
    dsimp only [kwL]
    (refine Ex.front 3 ?_)
    refine ex_slp (p := true) (fun _ _ h => absurd h (by omega)) (fun ba acap sla hs hza => ?_)
    subst hs
    (refine Ex.front 5 ?_)
    refine ex_slp (p := true) (fun _ _ h => absurd h (by omega)) (fun bp pcap slp hs hzp => ?_)
    subst hs
    refine rg_start_s ?_
    repeat (first|refine zA rfl ?_|refine zC rfl ?_|refine zE rfl ?_)
    refine rg_indexArr rfl rfl (by decide) ?_
    rw [show (0 + 5 + Int.toNat 0 * 1 : Nat) = 5 from rfl]
    repeat (first|refine zA rfl ?_|refine zF rfl ?_)
    refine rg_indexSl rfl rfl ⟨by omega, by omega⟩ ?_
    refine rg_load rfl ?_ (by rw [Int.toNat_natCast, Nat.zero_add, Nat.mul_one]; exact fl1_get (g := fun x => .bool x.pend) (fun _ => rfl) r0 i hlt slp)
    repeat (first|refine zJ rfl ?_|refine zQ ?_)
    have hx : (ownR 0 r0 r1)[i]? = some (r0[i]) := List.getElem?_eq_getElem hlt
    refine ex_cond_split rfl (fun g => ?_) (fun g => ?_)
    · have g : r0[i].pend = false := by simpa using g
      repeat refine yE rfl ?_
      refine Ex.ent (EntR.e (slp_fold bp pcap slp hzp)) ?_
      (refine Ex.front 7 ?_; refine Ex.front 7 ?_; refine Ex.front 7 ?_; refine Ex.front 7 ?_; refine Ex.front 7 ?_; refine Ex.front 7 ?_; refine Ex.front 6 ?_; refine Ex.front 7 ?_)
      refine Ex.ent (EntR.e (slp_fold ba acap sla hza)) ?_
      (refine Ex.front 7 ?_; refine Ex.front 7 ?_; refine Ex.front 3 ?_; refine Ex.front 7 ?_; refine Ex.front 4 ?_; refine Ex.front 7 ?_; refine Ex.front 7 ?_; refine Ex.front 7 ?_)
      refine Ex.ent (EntR.e (kw_fold (v := ⟨xs0, xs1, .slice (some ⟨ba, 0, none⟩) r0.length acap, xa1, .slice (some ⟨bp, 0, none⟩) r0.length pcap, xp1⟩))) ?_
      refine rg_start_s ?_
      repeat (first|refine zA rfl ?_|refine zB rfl rfl rfl ?_|refine zQ ?_)
      refine ex_inLoop ?_
      rw [rwrap (x := (i : Int) + 1) (by omega)]
      exact Ex.sup (IH ⟨i + 1, S, r0, r1⟩ ⟨by show i + 1 ≤ _; omega, hlen, k.more (by omega), hu, fun j y hj hy => by
        rcases Nat.lt_or_ge j i with h | h
        · exact hb j y h hy
        · have : j = i := by omega
          subst this
          rw [show r0[j]? = some r0[j] from hx] at hy; cases hy; exact g⟩ (by show 1000000 - (i + 1) < 1000000 - i; omega)) ⟨rfl, rfl, rfl, rfl, rfl, trivial⟩
    have g : r0[i].pend = true := by simpa using g
    repeat (first|refine zR ?_|refine yB ?_)
    refine rg_start_s ?_
    repeat (first|refine zA rfl ?_|refine zB rfl rfl rfl ?_|refine zC rfl ?_|refine zE rfl ?_|refine zO rfl rfl ?_|refine zP rfl ?_|refine zQ ?_|refine zR ?_|refine zS ?_|refine zW fun bl=>?_|refine zY rfl ?_)
    rw [rwrap (x := (i : Int) + 1) (by omega)]
    skip
    rw [show IntKind.wrap .u64 ((i : Int) + 1) = (i : Int) + 1 from wu_id (by omega)]
    skip
    refine rg_indexArr rfl rfl (by decide) ?_
    rw [show (0 + 3 + Int.toNat 0 * 1 : Nat) = 3 from rfl]
    repeat (first|refine zA rfl ?_|refine zF rfl ?_)
    refine rg_indexSl rfl rfl ⟨by omega, by omega⟩ ?_
    refine rg_load rfl ?_ (by rw [Int.toNat_natCast, Nat.zero_add, Nat.mul_one]; exact fl1_get (g := fun x => .int .i64 x.ans) (fun _ => rfl) r0 i hlt sla)
    repeat (first|refine zB rfl rfl rfl ?_|refine zQ ?_)
    refine ex_cond_split rfl (fun ga => ?_) (fun ga => ?_)
    · have ga : r0[i].ans ≠ 0 := by simpa using ga
      repeat (first|refine zA rfl ?_|refine zC rfl ?_|refine zD rfl ?_|refine zF rfl ?_|refine zH rfl ?_|refine zN rfl rfl ?_|refine zQ ?_|refine zR ?_|refine zS ?_|refine zT (by decide+kernel) (by decide+kernel) ?_)
      (refine Rg.front 7 ?_; refine Rg.front 7 ?_; refine Rg.front 7 ?_; refine Rg.front 7 ?_; refine Rg.front 7 ?_; refine Rg.front 7 ?_; refine Rg.front 7 ?_; refine Rg.front 7 ?_; refine Rg.front 8 ?_)
      obtain ⟨S', e1, tk, k', hu'⟩ := unw_step k (by omega) hu 0 (.inl rfl) hx g hb 5 (by rw [if_pos ga])
      rw [tk0_0 (.inl rfl), tk0_1 (.inl rfl)] at k'
      refine rg_callE rfl (Do_at b S 0 ⟨5, (i : Int) + 1, pz⟩ (30015 + i) _ k.ok (by omega) (by show (0 : Int) ≤ (i : Int) + 1 ∧ (i : Int) + 1 < 18446744073709551616; omega) S' 0 0 e1) ?_
      refine ⟨.inr (by (repeat' first | exact trivial | refine ⟨.inr ⟨_, _, _, _, Find.mem, rfl⟩, ?_⟩ | refine ⟨.inr ⟨_, _, _, _, Find.mem, inferInstance⟩, ?_⟩ | refine ⟨.inr ⟨_, Find.mem⟩, ?_⟩ | refine ⟨.inl (by decide +kernel), ?_⟩)), ?_⟩
      repeat (first|refine zA rfl ?_|refine zG rfl ?_|refine zI rfl rfl ?_|refine zQ ?_|refine zR ?_)
      (refine Ex.front 1 ?_; refine Ex.front 1 ?_; refine Ex.front 8 ?_; refine Ex.front 8 ?_; refine Ex.front 8 ?_; refine Ex.front 8 ?_; refine Ex.front 8 ?_; refine Ex.front 8 ?_; refine Ex.front 8 ?_)
      refine Ex.ent (EntR.e (slp_fold bp pcap slp hzp)) ?_
      (refine Ex.front 8 ?_; refine Ex.front 8 ?_; refine Ex.front 8 ?_; refine Ex.front 8 ?_; refine Ex.front 8 ?_; refine Ex.front 8 ?_; refine Ex.front 8 ?_; refine Ex.front 7 ?_; refine Ex.front 8 ?_)
      refine Ex.ent (EntR.e (slp_fold ba acap sla hza)) ?_
      (refine Ex.front 8 ?_; refine Ex.front 8 ?_; refine Ex.front 8 ?_; refine Ex.front 4 ?_; refine Ex.front 8 ?_; refine Ex.front 5 ?_; refine Ex.front 8 ?_; refine Ex.front 8 ?_; refine Ex.front 8 ?_)
      refine Ex.ent (EntR.e (kw_fold (v := ⟨xs0, xs1, .slice (some ⟨ba, 0, none⟩) r0.length acap, xa1, .slice (some ⟨bp, 0, none⟩) r0.length pcap, xp1⟩))) ?_
      have T := fun Δ => took_ok w S' r0 r1 0 0 ⟨5, (i : Int) + 1, pz⟩ (30015 + i + 1) Δ k'.ok (by omega) (.inl rfl) (by have := k.len; omega) tk
      refine rg_start_s ?_
      repeat (first|refine zA rfl ?_|refine zB rfl rfl rfl ?_|refine zH rfl ?_)
      simp only [tk0_0 (r0 := r0) (r1 := r1) (i := i) (.inl (rfl : (5 : Int) = 5)), tk0_1 (r0 := r0) (r1 := r1) (i := i) (.inl (rfl : (5 : Int) = 5))] at T
      refine rg_callE rfl (T _) ?_
      refine ⟨.inl rfl, ?_⟩
      repeat (first|refine zA rfl ?_|refine zJ rfl ?_|refine zK rfl rfl ?_)
      refine rg_callE rfl (kept_ok w S' _ _ (30015 + i + 1) _ k' (by omega)) ?_
      refine ⟨.inl rfl, ?_⟩
      repeat (first|refine zJ rfl ?_|refine zK rfl rfl ?_|refine zQ ?_|refine zV rfl ?_|refine yB ?_|refine yD ?_)
      (refine Ex.front 0 ?_; refine Ex.front 1 ?_)
      refine Ex.ent (Ent.drop (Ent.refl _)) ?_
      refine rg_start_s ?_
      repeat (first|refine zA rfl ?_|refine zB rfl rfl rfl ?_|refine zQ ?_)
      refine ex_inLoop ?_
      rw [rwrap (x := (i : Int) + 1) (by omega)]
      exact Ex.sup (IH ⟨i + 1, S', updR unp r0 i, r1⟩ ⟨by show i + 1 ≤ _; omega, by show (updR unp r0 i).length = _; rw [updR_len]; exact hlen, k'.more (by omega), hu', unp_done hb⟩ (by show 1000000 - (i + 1) < 1000000 - i; omega)) ⟨rfl, rfl, rfl, rfl, rfl, trivial⟩
    · have ga : r0[i].ans = 0 := by simpa using ga
      repeat (first|refine zA rfl ?_|refine zC rfl ?_|refine zD rfl ?_|refine zF rfl ?_|refine zH rfl ?_|refine zR ?_|refine zT (by decide+kernel) (by decide+kernel) ?_|refine yB ?_)
      (refine Rg.front 7 ?_; refine Rg.front 7 ?_; refine Rg.front 7 ?_; refine Rg.front 7 ?_; refine Rg.front 7 ?_; refine Rg.front 7 ?_; refine Rg.front 7 ?_; refine Rg.front 7 ?_; refine Rg.front 8 ?_)
      obtain ⟨S', e1, tk, k', hu'⟩ := unw_step k (by omega) hu 0 (.inl rfl) hx g hb 7 (by rw [if_neg (by simpa using ga)])
      rw [tk0_0 (.inr rfl), tk0_1 (.inr rfl)] at k'
      refine rg_callE rfl (Do_at b S 0 ⟨7, (i : Int) + 1, pz⟩ (30015 + i) _ k.ok (by omega) (by show (0 : Int) ≤ (i : Int) + 1 ∧ (i : Int) + 1 < 18446744073709551616; omega) S' 0 0 e1) ?_
      refine ⟨.inr (by (repeat' first | exact trivial | refine ⟨.inr ⟨_, _, _, _, Find.mem, rfl⟩, ?_⟩ | refine ⟨.inr ⟨_, _, _, _, Find.mem, inferInstance⟩, ?_⟩ | refine ⟨.inr ⟨_, Find.mem⟩, ?_⟩ | refine ⟨.inl (by decide +kernel), ?_⟩)), ?_⟩
      repeat (first|refine zA rfl ?_|refine zG rfl ?_|refine zI rfl rfl ?_|refine zQ ?_|refine zR ?_)
      (refine Ex.front 1 ?_; refine Ex.front 1 ?_; refine Ex.front 8 ?_; refine Ex.front 8 ?_; refine Ex.front 8 ?_; refine Ex.front 8 ?_; refine Ex.front 8 ?_; refine Ex.front 8 ?_; refine Ex.front 8 ?_)
      refine Ex.ent (EntR.e (slp_fold bp pcap slp hzp)) ?_
      (refine Ex.front 8 ?_; refine Ex.front 8 ?_; refine Ex.front 8 ?_; refine Ex.front 8 ?_; refine Ex.front 8 ?_; refine Ex.front 8 ?_; refine Ex.front 8 ?_; refine Ex.front 7 ?_; refine Ex.front 8 ?_)
      refine Ex.ent (EntR.e (slp_fold ba acap sla hza)) ?_
      (refine Ex.front 8 ?_; refine Ex.front 8 ?_; refine Ex.front 8 ?_; refine Ex.front 4 ?_; refine Ex.front 8 ?_; refine Ex.front 5 ?_; refine Ex.front 8 ?_; refine Ex.front 8 ?_; refine Ex.front 8 ?_)
      refine Ex.ent (EntR.e (kw_fold (v := ⟨xs0, xs1, .slice (some ⟨ba, 0, none⟩) r0.length acap, xa1, .slice (some ⟨bp, 0, none⟩) r0.length pcap, xp1⟩))) ?_
      have T := fun Δ => took_ok w S' r0 r1 0 0 ⟨7, (i : Int) + 1, pz⟩ (30015 + i + 1) Δ k'.ok (by omega) (.inl rfl) (by have := k.len; omega) tk
      refine rg_start_s ?_
      repeat (first|refine zA rfl ?_|refine zB rfl rfl rfl ?_|refine zH rfl ?_)
      simp only [tk0_0 (r0 := r0) (r1 := r1) (i := i) (.inr (rfl : (7 : Int) = 7)), tk0_1 (r0 := r0) (r1 := r1) (i := i) (.inr (rfl : (7 : Int) = 7))] at T
      refine rg_callE rfl (T _) ?_
      refine ⟨.inl rfl, ?_⟩
      repeat (first|refine zA rfl ?_|refine zJ rfl ?_|refine zK rfl rfl ?_)
      refine rg_callE rfl (kept_ok w S' _ _ (30015 + i + 1) _ k' (by omega)) ?_
      refine ⟨.inl rfl, ?_⟩
      repeat (first|refine zJ rfl ?_|refine zK rfl rfl ?_|refine zQ ?_|refine zV rfl ?_|refine yB ?_|refine yD ?_)
      (refine Ex.front 0 ?_; refine Ex.front 1 ?_)
      refine Ex.ent (Ent.drop (Ent.refl _)) ?_
      refine rg_start_s ?_
      repeat (first|refine zA rfl ?_|refine zB rfl rfl rfl ?_|refine zQ ?_)
      refine ex_inLoop ?_
      rw [rwrap (x := (i : Int) + 1) (by omega)]
      exact Ex.sup (IH ⟨i + 1, S', updR unp r0 i, r1⟩ ⟨by show i + 1 ≤ _; omega, by show (updR unp r0 i).length = _; rw [updR_len]; exact hlen, k'.more (by omega), hu', unp_done hb⟩ (by show 1000000 - (i + 1) < 1000000 - i; omega)) ⟨rfl, rfl, rfl, rfl, rfl, trivial⟩
  have hie : i = r0.length := by have := of_decide_eq_false h1; omega
  have hpk : (ownC 0 S).hd.packets = [] := by
    rw [show (ownC 0 S).hd.packets = pendL r0 0 from k.link.ds.pk]
    exact pendL_none r0 0 fun j y hy => hb j y (by have := lt_some hy; omega) hy
  repeat (first|refine zR ?_|refine yE rfl ?_)
  refine Ex.open_ kw_open fun z _ => ?_
  obtain ⟨b, v⟩ := z
  dsimp only [kwL]
  refine rg_start_s ?_
  repeat (first|refine zA rfl ?_|refine zC rfl ?_|refine zD rfl ?_|refine zF rfl ?_)
  (refine Rg.front 6 ?_; refine Rg.front 6 ?_; refine Rg.front 6 ?_; refine Rg.front 6 ?_; refine Rg.front 6 ?_; refine Rg.front 6 ?_; refine Rg.front 6 ?_; refine Rg.front 7 ?_)
  refine rg_call rfl (LookC_bg b S 0 (30015 + i) _ (.inl rfl) k.ok (by omega)) ?_
  rintro _ D ⟨la, lc, kn, rfl, hE⟩
  refine ⟨.inl rfl, Rg.ent hE ?_⟩
  unfold lookL
  rw [hpk, show (ownC 0 S).hd.opn = false from hu.o0]
  repeat (first|refine zA rfl ?_|refine zB rfl rfl rfl ?_|refine zE rfl ?_|refine zF rfl ?_|refine zG rfl ?_|refine zI rfl rfl ?_|refine zK rfl rfl ?_|refine zO rfl rfl ?_|refine zQ ?_|refine zR ?_|refine zS ?_|refine zV rfl ?_|refine zW fun bl=>?_|refine zZ rfl ?_|refine yB ?_|refine yD ?_)
  (refine Ex.front 2 ?_; refine Ex.front 9 ?_; refine Ex.front 9 ?_; refine Ex.front 9 ?_; refine Ex.front 9 ?_; refine Ex.front 9 ?_; refine Ex.front 9 ?_; refine Ex.front 9 ?_; refine Ex.front 9 ?_; refine Ex.front 9 ?_)
  refine Ex.ent (Ent.drop (Ent.drop (Ent.refl _))) ?_
  refine Ex.ent (EntR.e kw_fold) ?_
  rw [show IntKind.wrap .i64 (0 + 1) = 1 from by decide]
  refine ex_inLoop ?_
  repeat refine zR ?_
  have k7 : KOk 60100 S r0 r1 := k.more (by omega)
  refine rg_start_s ?_
  repeat (first|refine zB rfl rfl rfl ?_|refine zQ ?_|refine zR ?_|refine zU rfl ?_|refine yB ?_|refine yC ?_)
  refine Ex.open_ kw_open fun z _ => ?_
  obtain ⟨b, xs0, xs1, xa0, xa1, xp0, xp1⟩ := z
  dsimp only [kwL]
  (refine Ex.front 2 ?_)
  refine Ex.open_ (slp_shapeO (p := true)) fun q hq => ?_
  obtain ⟨ya, yc⟩ := q
  dsimp only at hq
  subst hq
  (refine Ex.front 7 ?_; refine Ex.front 7 ?_; refine Ex.front 7 ?_; refine Ex.front 7 ?_; refine Ex.front 7 ?_; refine Ex.front 5 ?_; refine Ex.front 7 ?_; refine Ex.front 7 ?_)
  refine rg_start_s ?_
  repeat (first|refine zA rfl ?_|refine zC rfl ?_|refine zE rfl ?_|refine zG rfl ?_|refine zQ ?_|refine zR ?_|refine zS ?_)
  refine rg_indexArr rfl rfl (by decide) ?_
  rw [show (0 + 1 + Int.toNat 1 * 1 : Nat) = 2 from rfl]
  repeat (first|refine zA rfl ?_|refine zF rfl ?_|refine zQ ?_|refine zZ rfl ?_|refine yC ?_)
  refine Ex.ent (EntR.e (kw_fold (v := ⟨xs0, .slice ya r1.length yc, xa0, xa1, xp0, xp1⟩))) ?_
  refine ex_loop ?_
  have hL1 : r1.length ≤ 60100 := by have := k7.len; omega
  refine ex_ind (ι := US) (fun i => 1000000 - i.1) (fun i => [(71, .int .i64 (i.1 : Int)), (70, .int .i64 (r1.length : Int)), (10, .int .i64 1), (61, .int .i64 1), (5, ptrV w)]) (fun i => .pr (KwAt w i.2.1 i.2.2.1 i.2.2.2) :: Γ)
    (fun i => i.1 ≤ r1.length ∧ i.2.2.2.length = r1.length ∧ KOk (60100 + i.1) i.2.1 i.2.2.1 i.2.2.2 ∧ Uw i.2.1 ∧ ∀ (j : Nat) (y : Rec), j < i.1 → i.2.2.2[j]? = some y → y.pend = false)
    ⟨0, S, r0, r1⟩ ⟨Nat.zero_le _, rfl, k7, hu, fun j y h => absurd h (by omega)⟩ ⟨rfl, rfl, rfl, rfl, rfl, trivial⟩ rfl (fun i hi IH => ?_)
  obtain ⟨i, S, r0, r1⟩ := i
  obtain ⟨hi, hlen, k, hu, hb⟩ := hi
  dsimp only at hi hlen k hu hb IH ⊢
  repeat refine zR ?_
  refine rg_start_s ?_
  repeat (first|refine zB rfl rfl rfl ?_|refine zQ ?_|refine zR ?_)
  refine ex_cond_split rfl (fun h1 => ?_) (fun h1 => ?_)
  · have hlt : i < r1.length := by have := of_decide_eq_true h1; omega
    repeat (first|refine zR ?_|refine yB ?_|refine yC ?_)
    refine rg_start_s ?_
    repeat (first|refine zA rfl ?_|refine zG rfl ?_|refine zQ ?_|refine zR ?_)
    refine Ex.open_ kw_open fun z _ => ?_
    obtain ⟨b, xs0, xs1, xa0, xa1, xp0, xp1⟩ := z
    dsimp only [kwL]
    (refine Ex.front 4 ?_)
    refine ex_slp (p := true) (fun _ _ h => absurd h (by omega)) (fun ba acap sla hs hza => ?_)
    subst hs
    (refine Ex.front 6 ?_)
    refine ex_slp (p := true) (fun _ _ h => absurd h (by omega)) (fun bp pcap slp hs hzp => ?_)
    subst hs
    refine rg_start_s ?_
    repeat (first|refine zA rfl ?_|refine zC rfl ?_|refine zE rfl ?_)
    refine rg_indexArr rfl rfl (by decide) ?_
    rw [show (0 + 5 + Int.toNat 1 * 1 : Nat) = 6 from rfl]
    repeat (first|refine zA rfl ?_|refine zF rfl ?_)
    refine rg_indexSl rfl rfl ⟨by omega, by omega⟩ ?_
    refine rg_load rfl ?_ (by rw [Int.toNat_natCast, Nat.zero_add, Nat.mul_one]; exact fl1_get (g := fun x => .bool x.pend) (fun _ => rfl) r1 i hlt slp)
    repeat (first|refine zJ rfl ?_|refine zQ ?_)
    have hx : (ownR 1 r0 r1)[i]? = some (r1[i]) := List.getElem?_eq_getElem hlt
    refine ex_cond_split rfl (fun g => ?_) (fun g => ?_)
    · have g : r1[i].pend = false := by simpa using g
      repeat refine yE rfl ?_
      refine Ex.ent (EntR.e (slp_fold bp pcap slp hzp)) ?_
      (refine Ex.front 7 ?_; refine Ex.front 7 ?_; refine Ex.front 7 ?_; refine Ex.front 7 ?_; refine Ex.front 7 ?_; refine Ex.front 7 ?_; refine Ex.front 6 ?_; refine Ex.front 7 ?_)
      refine Ex.ent (EntR.e (slp_fold ba acap sla hza)) ?_
      (refine Ex.front 7 ?_; refine Ex.front 2 ?_; refine Ex.front 7 ?_; refine Ex.front 3 ?_; refine Ex.front 7 ?_; refine Ex.front 7 ?_; refine Ex.front 7 ?_; refine Ex.front 7 ?_)
      refine Ex.ent (EntR.e (kw_fold (v := ⟨xs0, xs1, xa0, .slice (some ⟨ba, 0, none⟩) r1.length acap, xp0, .slice (some ⟨bp, 0, none⟩) r1.length pcap⟩))) ?_
      refine rg_start_s ?_
      repeat (first|refine zA rfl ?_|refine zB rfl rfl rfl ?_|refine zQ ?_)
      refine ex_inLoop ?_
      rw [rwrap (x := (i : Int) + 1) (by omega)]
      exact Ex.sup (IH ⟨i + 1, S, r0, r1⟩ ⟨by show i + 1 ≤ _; omega, hlen, k.more (by omega), hu, fun j y hj hy => by
        rcases Nat.lt_or_ge j i with h | h
        · exact hb j y h hy
        · have : j = i := by omega
          subst this
          rw [show r1[j]? = some r1[j] from hx] at hy; cases hy; exact g⟩ (by show 1000000 - (i + 1) < 1000000 - i; omega)) ⟨rfl, rfl, rfl, rfl, rfl, trivial⟩
    have g : r1[i].pend = true := by simpa using g
    repeat (first|refine zR ?_|refine yB ?_)
    refine rg_start_s ?_
    repeat (first|refine zA rfl ?_|refine zB rfl rfl rfl ?_|refine zC rfl ?_|refine zE rfl ?_|refine zO rfl rfl ?_|refine zP rfl ?_|refine zQ ?_|refine zR ?_|refine zS ?_|refine zW fun bl=>?_|refine zY rfl ?_)
    rw [rwrap (x := (i : Int) + 1) (by omega)]
    skip
    rw [show IntKind.wrap .u64 ((i : Int) + 1) = (i : Int) + 1 from wu_id (by omega)]
    skip
    refine rg_indexArr rfl rfl (by decide) ?_
    rw [show (0 + 3 + Int.toNat 1 * 1 : Nat) = 4 from rfl]
    repeat (first|refine zA rfl ?_|refine zF rfl ?_)
    refine rg_indexSl rfl rfl ⟨by omega, by omega⟩ ?_
    refine rg_load rfl ?_ (by rw [Int.toNat_natCast, Nat.zero_add, Nat.mul_one]; exact fl1_get (g := fun x => .int .i64 x.ans) (fun _ => rfl) r1 i hlt sla)
    repeat (first|refine zB rfl rfl rfl ?_|refine zQ ?_)
    refine ex_cond_split rfl (fun ga => ?_) (fun ga => ?_)
    · have ga : r1[i].ans ≠ 0 := by simpa using ga
      repeat (first|refine zA rfl ?_|refine zC rfl ?_|refine zD rfl ?_|refine zF rfl ?_|refine zH rfl ?_|refine zN rfl rfl ?_|refine zQ ?_|refine zR ?_|refine zS ?_|refine zT (by decide+kernel) (by decide+kernel) ?_)
      (refine Rg.front 7 ?_; refine Rg.front 7 ?_; refine Rg.front 7 ?_; refine Rg.front 7 ?_; refine Rg.front 7 ?_; refine Rg.front 7 ?_; refine Rg.front 7 ?_; refine Rg.front 7 ?_; refine Rg.front 8 ?_)
      obtain ⟨S', e1, tk, k', hu'⟩ := unw_step k (by omega) hu 1 (.inr rfl) hx g hb 5 (by rw [if_pos ga])
      rw [tk1_0 (.inl rfl), tk1_1 (.inl rfl)] at k'
      refine rg_callE rfl (Do_at b S 1 ⟨5, (i : Int) + 1, pz⟩ (60100 + i) _ k.ok (by omega) (by show (0 : Int) ≤ (i : Int) + 1 ∧ (i : Int) + 1 < 18446744073709551616; omega) S' 0 0 e1) ?_
      refine ⟨.inr (by (repeat' first | exact trivial | refine ⟨.inr ⟨_, _, _, _, Find.mem, rfl⟩, ?_⟩ | refine ⟨.inr ⟨_, _, _, _, Find.mem, inferInstance⟩, ?_⟩ | refine ⟨.inr ⟨_, Find.mem⟩, ?_⟩ | refine ⟨.inl (by decide +kernel), ?_⟩)), ?_⟩
      repeat (first|refine zA rfl ?_|refine zG rfl ?_|refine zI rfl rfl ?_|refine zQ ?_|refine zR ?_)
      (refine Ex.front 1 ?_; refine Ex.front 1 ?_; refine Ex.front 8 ?_; refine Ex.front 8 ?_; refine Ex.front 8 ?_; refine Ex.front 8 ?_; refine Ex.front 8 ?_; refine Ex.front 8 ?_; refine Ex.front 8 ?_)
      refine Ex.ent (EntR.e (slp_fold bp pcap slp hzp)) ?_
      (refine Ex.front 8 ?_; refine Ex.front 8 ?_; refine Ex.front 8 ?_; refine Ex.front 8 ?_; refine Ex.front 8 ?_; refine Ex.front 8 ?_; refine Ex.front 8 ?_; refine Ex.front 7 ?_; refine Ex.front 8 ?_)
      refine Ex.ent (EntR.e (slp_fold ba acap sla hza)) ?_
      (refine Ex.front 8 ?_; refine Ex.front 8 ?_; refine Ex.front 3 ?_; refine Ex.front 8 ?_; refine Ex.front 4 ?_; refine Ex.front 8 ?_; refine Ex.front 8 ?_; refine Ex.front 8 ?_; refine Ex.front 8 ?_)
      refine Ex.ent (EntR.e (kw_fold (v := ⟨xs0, xs1, xa0, .slice (some ⟨ba, 0, none⟩) r1.length acap, xp0, .slice (some ⟨bp, 0, none⟩) r1.length pcap⟩))) ?_
      have T := fun Δ => took_ok w S' r0 r1 1 0 ⟨5, (i : Int) + 1, pz⟩ (60100 + i + 1) Δ k'.ok (by omega) (.inr rfl) (by have := k.len; omega) tk
      refine rg_start_s ?_
      repeat (first|refine zA rfl ?_|refine zB rfl rfl rfl ?_|refine zH rfl ?_)
      simp only [tk1_0 (r0 := r0) (r1 := r1) (i := i) (.inl (rfl : (5 : Int) = 5)), tk1_1 (r0 := r0) (r1 := r1) (i := i) (.inl (rfl : (5 : Int) = 5))] at T
      refine rg_callE rfl (T _) ?_
      refine ⟨.inl rfl, ?_⟩
      repeat (first|refine zA rfl ?_|refine zJ rfl ?_|refine zK rfl rfl ?_)
      refine rg_callE rfl (kept_ok w S' _ _ (60100 + i + 1) _ k' (by omega)) ?_
      refine ⟨.inl rfl, ?_⟩
      repeat (first|refine zJ rfl ?_|refine zK rfl rfl ?_|refine zQ ?_|refine zV rfl ?_|refine yB ?_|refine yD ?_)
      (refine Ex.front 0 ?_; refine Ex.front 1 ?_)
      refine Ex.ent (Ent.drop (Ent.refl _)) ?_
      refine rg_start_s ?_
      repeat (first|refine zA rfl ?_|refine zB rfl rfl rfl ?_|refine zQ ?_)
      refine ex_inLoop ?_
      rw [rwrap (x := (i : Int) + 1) (by omega)]
      exact Ex.sup (IH ⟨i + 1, S', r0, updR unp r1 i⟩ ⟨by show i + 1 ≤ _; omega, by show (updR unp r1 i).length = _; rw [updR_len]; exact hlen, k'.more (by omega), hu', unp_done hb⟩ (by show 1000000 - (i + 1) < 1000000 - i; omega)) ⟨rfl, rfl, rfl, rfl, rfl, trivial⟩
    · have ga : r1[i].ans = 0 := by simpa using ga
      repeat (first|refine zA rfl ?_|refine zC rfl ?_|refine zD rfl ?_|refine zF rfl ?_|refine zH rfl ?_|refine zR ?_|refine zT (by decide+kernel) (by decide+kernel) ?_|refine yB ?_)
      (refine Rg.front 7 ?_; refine Rg.front 7 ?_; refine Rg.front 7 ?_; refine Rg.front 7 ?_; refine Rg.front 7 ?_; refine Rg.front 7 ?_; refine Rg.front 7 ?_; refine Rg.front 7 ?_; refine Rg.front 8 ?_)
      obtain ⟨S', e1, tk, k', hu'⟩ := unw_step k (by omega) hu 1 (.inr rfl) hx g hb 7 (by rw [if_neg (by simpa using ga)])
      rw [tk1_0 (.inr rfl), tk1_1 (.inr rfl)] at k'
      refine rg_callE rfl (Do_at b S 1 ⟨7, (i : Int) + 1, pz⟩ (60100 + i) _ k.ok (by omega) (by show (0 : Int) ≤ (i : Int) + 1 ∧ (i : Int) + 1 < 18446744073709551616; omega) S' 0 0 e1) ?_
      refine ⟨.inr (by (repeat' first | exact trivial | refine ⟨.inr ⟨_, _, _, _, Find.mem, rfl⟩, ?_⟩ | refine ⟨.inr ⟨_, _, _, _, Find.mem, inferInstance⟩, ?_⟩ | refine ⟨.inr ⟨_, Find.mem⟩, ?_⟩ | refine ⟨.inl (by decide +kernel), ?_⟩)), ?_⟩
      repeat (first|refine zA rfl ?_|refine zG rfl ?_|refine zI rfl rfl ?_|refine zQ ?_|refine zR ?_)
      (refine Ex.front 1 ?_; refine Ex.front 1 ?_; refine Ex.front 8 ?_; refine Ex.front 8 ?_; refine Ex.front 8 ?_; refine Ex.front 8 ?_; refine Ex.front 8 ?_; refine Ex.front 8 ?_; refine Ex.front 8 ?_)
      refine Ex.ent (EntR.e (slp_fold bp pcap slp hzp)) ?_
      (refine Ex.front 8 ?_; refine Ex.front 8 ?_; refine Ex.front 8 ?_; refine Ex.front 8 ?_; refine Ex.front 8 ?_; refine Ex.front 8 ?_; refine Ex.front 8 ?_; refine Ex.front 7 ?_; refine Ex.front 8 ?_)
      refine Ex.ent (EntR.e (slp_fold ba acap sla hza)) ?_
      (refine Ex.front 8 ?_; refine Ex.front 8 ?_; refine Ex.front 3 ?_; refine Ex.front 8 ?_; refine Ex.front 4 ?_; refine Ex.front 8 ?_; refine Ex.front 8 ?_; refine Ex.front 8 ?_; refine Ex.front 8 ?_)
      refine Ex.ent (EntR.e (kw_fold (v := ⟨xs0, xs1, xa0, .slice (some ⟨ba, 0, none⟩) r1.length acap, xp0, .slice (some ⟨bp, 0, none⟩) r1.length pcap⟩))) ?_
      have T := fun Δ => took_ok w S' r0 r1 1 0 ⟨7, (i : Int) + 1, pz⟩ (60100 + i + 1) Δ k'.ok (by omega) (.inr rfl) (by have := k.len; omega) tk
      refine rg_start_s ?_
      repeat (first|refine zA rfl ?_|refine zB rfl rfl rfl ?_|refine zH rfl ?_)
      simp only [tk1_0 (r0 := r0) (r1 := r1) (i := i) (.inr (rfl : (7 : Int) = 7)), tk1_1 (r0 := r0) (r1 := r1) (i := i) (.inr (rfl : (7 : Int) = 7))] at T
      refine rg_callE rfl (T _) ?_
      refine ⟨.inl rfl, ?_⟩
      repeat (first|refine zA rfl ?_|refine zJ rfl ?_|refine zK rfl rfl ?_)
      refine rg_callE rfl (kept_ok w S' _ _ (60100 + i + 1) _ k' (by omega)) ?_
      refine ⟨.inl rfl, ?_⟩
      repeat (first|refine zJ rfl ?_|refine zK rfl rfl ?_|refine zQ ?_|refine zV rfl ?_|refine yB ?_|refine yD ?_)
      (refine Ex.front 0 ?_; refine Ex.front 1 ?_)
      refine Ex.ent (Ent.drop (Ent.refl _)) ?_
      refine rg_start_s ?_
      repeat (first|refine zA rfl ?_|refine zB rfl rfl rfl ?_|refine zQ ?_)
      refine ex_inLoop ?_
      rw [rwrap (x := (i : Int) + 1) (by omega)]
      exact Ex.sup (IH ⟨i + 1, S', r0, updR unp r1 i⟩ ⟨by show i + 1 ≤ _; omega, by show (updR unp r1 i).length = _; rw [updR_len]; exact hlen, k'.more (by omega), hu', unp_done hb⟩ (by show 1000000 - (i + 1) < 1000000 - i; omega)) ⟨rfl, rfl, rfl, rfl, rfl, trivial⟩
  have hie : i = r1.length := by have := of_decide_eq_false h1; omega
  have hpk : (ownC 1 S).hd.packets = [] := by
    rw [show (ownC 1 S).hd.packets = pendL r1 0 from k.link.dr.pk]
    exact pendL_none r1 0 fun j y hy => hb j y (by have := lt_some hy; omega) hy
  repeat (first|refine zR ?_|refine yE rfl ?_)
  refine Ex.open_ kw_open fun z _ => ?_
  obtain ⟨b, v⟩ := z
  dsimp only [kwL]
  refine rg_start_s ?_
  repeat (first|refine zA rfl ?_|refine zC rfl ?_|refine zD rfl ?_|refine zF rfl ?_)
  (refine Rg.front 6 ?_; refine Rg.front 6 ?_; refine Rg.front 6 ?_; refine Rg.front 6 ?_; refine Rg.front 6 ?_; refine Rg.front 6 ?_; refine Rg.front 6 ?_; refine Rg.front 7 ?_)
  refine rg_call rfl (LookC_bg b S 1 (60100 + i) _ (.inr rfl) k.ok (by omega)) ?_
  rintro _ D ⟨la, lc, kn, rfl, hE⟩
  refine ⟨.inl rfl, Rg.ent hE ?_⟩
  unfold lookL
  rw [hpk, show (ownC 1 S).hd.opn = false from hu.o1]
  repeat (first|refine zA rfl ?_|refine zB rfl rfl rfl ?_|refine zE rfl ?_|refine zF rfl ?_|refine zG rfl ?_|refine zI rfl rfl ?_|refine zK rfl rfl ?_|refine zO rfl rfl ?_|refine zQ ?_|refine zR ?_|refine zS ?_|refine zV rfl ?_|refine zW fun bl=>?_|refine zZ rfl ?_|refine yB ?_|refine yD ?_)
  (refine Ex.front 2 ?_; refine Ex.front 9 ?_; refine Ex.front 9 ?_; refine Ex.front 9 ?_; refine Ex.front 9 ?_; refine Ex.front 9 ?_; refine Ex.front 9 ?_; refine Ex.front 9 ?_; refine Ex.front 9 ?_; refine Ex.front 9 ?_)
  refine Ex.ent (Ent.drop (Ent.drop (Ent.refl _))) ?_
  refine Ex.ent (EntR.e kw_fold) ?_
  rw [show IntKind.wrap .i64 (1 + 1) = 2 from by decide]
  refine ex_inLoop ?_
  repeat refine zR ?_
  refine rg_start_s ?_
  repeat (first|refine zA rfl ?_|refine zB rfl rfl rfl ?_|refine zQ ?_|refine zR ?_|refine zS ?_|refine zV rfl ?_|refine yE rfl ?_)
  refine rg_callE rfl (kept_ok w S _ _ (60100 + i) _ k (by have := k.len; omega)) ?_
  refine ⟨.inl rfl, ?_⟩
  repeat (first|refine zG rfl ?_|refine zQ ?_)
  exact ex_rete ret Try.func8 rfl (Ent.refl _) rfl

end Go.Br
