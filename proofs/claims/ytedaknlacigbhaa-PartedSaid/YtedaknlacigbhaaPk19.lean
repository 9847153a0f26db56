/-
  Lemmas towards the law, proved without conditions of their own: Contracts: slices.Sorted at the keys of the map of packets; Look of package chain; Contracts of package bridge: the atomic number; do; of; Contracts of package bridge: of, Do, Balance, Look, Head, Taken, at each chain. (Printed by wip/tools/gen_br2.py.); Contracts of package bridge: Head, Same, New. (Printed by wip/tools/gen_br3.py.); Contract of New of package bridge; Contracts of package bridge over the abstract bridge.
-/
import Derived.Test.YtedaknlacigbhaaPk18
import Derived.Test.YtedaknlacigbhaaPk09
namespace Go.Br
open Go Go.Lx Go.Proofs
open Go.Lx renaming rg_move → zA, rg_int → zB, rg_nilCheck → zC, rg_fieldAddr0 → zD, rg_fieldAddr → zE, rg_load → zF, rg_assign → zG, rg_loadAgg → zH, rg_extract → zI, rg_not → zJ, rg_pick → zK, rg_off → zL, rg_offU → zM, rg_store → zN, rg_storeAgg → zO, rg_convInt → zP, rg_done → zQ, ex_seq → zR, rg_start_s → zS, rg_start_d → zT, ex_cond_true → zU, ex_cond_false → zV, rg_alloc → zW, rg_boxAgg → zX, rg_build → zY, rg_lenSl → zZ, rg_lenMap → yA, ex_skip → yB, ex_block → yC, ex_inBlock → yD, ex_exit → yE, rg_caseG → yZ
set_option maxRecDepth 100000

theorem ex_slv {P : Program} {X : Tgt} {b : Base} {n : Nat} {E : Env} {k : List Item} {cs : List Frame} {Γ : List Ch} {el m : Nat} {s : Value} {xs : List Value} {len : Nat}
    (e0 : s = .slice none 0 0 → xs = [] → len = 0 → Ex P X b n E k cs (.pr (SlV el m s xs len) :: Γ))
    (e1 : ∀ bl cap slack, s = .slice (some ⟨bl, 0, none⟩) len cap → (len ≤ cap ∧ xs.length = len * m ∧ slack.length = (cap - len) * m) → Ex P X b n E k cs (.pt bl true (.cells ⟨xs ++ slack⟩ el (0, 0)) :: Γ)) : Ex P X b n E k cs (.pr (SlV el m s xs len) :: Γ) := fun tmps h t st => by
  rcases star_slv.1 st with ⟨h1, h2, h3, _⟩ | ⟨bl, cap, slack, a, b, c, d, st'⟩
  · exact e0 h1 h2 h3 tmps h t st
  · exact e1 bl cap slack a ⟨b, c, d⟩ tmps h t st'

theorem insNil_ok (Γ : List Ch) : CallsX Try.prog 96 #[.slice none 0 0, .int .i64 0, .int .i64 0] Γ (fun v Δ => v = .tuple #[] ∧ Δ = Γ) := by
  refine calls_of_body (args := [.slice none 0 0, .int .i64 0, .int .i64 0]) Try.func96 rfl Try.ntmps96 fun X cs ret => ?_
  repeat (first|refine zA rfl ?_|refine zB rfl rfl rfl ?_|refine zG rfl ?_|refine zQ ?_|refine zR ?_|refine zS ?_|refine yC ?_)
  refine ex_loop ?_
  repeat (first|refine zA rfl ?_|refine zB rfl rfl rfl ?_|refine zQ ?_|refine zR ?_|refine zS ?_|refine zV rfl ?_|refine yE rfl ?_)
  exact ex_endc ret Try.func96 rfl ⟨rfl, rfl⟩

theorem pdqNil_ok (lim : Int) (Γ : List Ch) : CallsX Try.prog 89 #[.slice none 0 0, .int .i64 0, .int .i64 0, .int .i64 lim] Γ (fun v Δ => v = .tuple #[] ∧ Δ = Γ) := by
  refine calls_of_body (args := [.slice none 0 0, .int .i64 0, .int .i64 0, .int .i64 lim]) Try.func89 rfl Try.ntmps89 fun X cs ret => ?_
  repeat (first|refine zG rfl ?_|refine zQ ?_|refine zR ?_|refine zS ?_|refine yC ?_)
  refine ex_loop ?_
  repeat (first|refine zA rfl ?_|refine zB rfl rfl rfl ?_|refine zG rfl ?_|refine zQ ?_|refine zR ?_|refine zS ?_|refine zU rfl ?_|refine yC ?_)
  refine rg_call rfl (insNil_ok _) ?_
  rintro _ _ ⟨rfl, rfl⟩
  refine ⟨.inl rfl, ?_⟩
  repeat refine zQ ?_
  exact ex_retc ret Try.func89 rfl ⟨rfl, rfl⟩

theorem sortNil_ok (Γ : List Ch) : CallsX Try.prog 76 #[.slice none 0 0] Γ (fun v Δ => v = .tuple #[] ∧ Δ = Γ) := by
  refine calls_of_body (args := [.slice none 0 0]) Try.func76 rfl Try.ntmps76 fun X cs ret => ?_
  repeat (first|refine zA rfl ?_|refine zG rfl ?_|refine zP rfl ?_|refine zQ ?_|refine zR ?_|refine zS ?_|refine zZ rfl ?_)
  rw [show IntKind.wrap .u64 ((0 : Nat) : Int) = ((0 : Nat) : Int) by rw [wU]; rfl]
  refine rg_call rfl (len_ok 0 _ (by omega)) ?_
  rintro _ _ ⟨rfl, rfl⟩
  refine ⟨.inl rfl, ?_⟩
  refine rg_call rfl (pdqNil_ok _ _) ?_
  rintro _ _ ⟨rfl, rfl⟩
  refine ⟨.inl rfl, ?_⟩
  repeat refine zQ ?_
  exact ex_endc ret Try.func76 rfl ⟨rfl, rfl⟩

theorem collect_ok (m mb ck : Nat) (p p1 : Bool) (l : List Pk) (Γ : List Ch) (ok : OkL l ck) :
    CallsX Try.prog 75 #[.func (.func 77) #[] ⟨[ptrV mb]⟩] (.pt mb p1 (.cells ⟨[.map (some m)]⟩ 143 (0, 0)) :: .pt m p (.map ⟨pEs l⟩ ck) :: Γ)
      (fun v Δ => ∃ qs : List Pk, qs.Perm l ∧ Δ = .pr (SlV 36 1 v (qs.map qV) qs.length) :: .pt m p (.map ⟨pEs l⟩ ck) :: Γ) := by
  refine calls_of_body (args := [.func (.func 77) #[] ⟨[ptrV mb]⟩]) Try.func75 rfl Try.ntmps75 fun X cs ret => ?_
  repeat (first|refine zA rfl ?_|refine zG rfl ?_|refine zQ ?_|refine zR ?_|refine zS ?_)
  refine rg_call rfl (appendSeq_ok m mb ck p p1 l _ ok) ?_
  rintro v _ ⟨qs, hq, rfl⟩
  refine ⟨.inl rfl, ?_⟩
  repeat (first|refine zG rfl ?_|refine zQ ?_)
  exact ex_retc (vs := [v]) ret Try.func75 rfl ⟨qs, hq, rfl⟩

theorem sorted_ok (m mb ck : Nat) (p p1 : Bool) (l : List Pk) (Γ : List Ch) (ok : OkL l ck) :
    CallsX Try.prog 60 #[.func (.func 77) #[] ⟨[ptrV mb]⟩] (.pt mb p1 (.cells ⟨[.map (some m)]⟩ 143 (0, 0)) :: .pt m p (.map ⟨pEs l⟩ ck) :: Γ)
      (fun v Δ => ∃ a cap, v = .slice a l.length cap ∧ Δ = .pr (SlV 36 1 (.slice a l.length cap) (l.map qV) l.length) :: .pt m p (.map ⟨pEs l⟩ ck) :: Γ) := by
  refine calls_of_body (args := [.func (.func 77) #[] ⟨[ptrV mb]⟩]) Try.func60 rfl Try.ntmps60 fun X cs ret => ?_
  repeat (first|refine zA rfl ?_|refine zG rfl ?_|refine zQ ?_|refine zR ?_|refine zS ?_)
  refine rg_call rfl (collect_ok m mb ck p p1 l _ ok) ?_
  rintro v _ ⟨qs, hq, rfl⟩
  refine ⟨.inl rfl, ?_⟩
  have hql := hq.length_eq
  repeat (first|refine zG rfl ?_|refine zQ ?_|refine zR ?_)
  refine ex_slv (fun h1 h2 h3 => ?_) (fun bl cap slack h1 hz => ?_)
  · subst h1
    have hq0 : qs = [] := by simpa using h2
    subst hq0
    have hl : l = [] := List.length_eq_zero_iff.1 (by rw [← hql]; rfl)
    subst hl
    repeat (first|refine zA rfl ?_|refine zS ?_)
    refine rg_call rfl (sortNil_ok _) ?_
    rintro _ _ ⟨rfl, rfl⟩
    refine ⟨.inl rfl, ?_⟩
    repeat (first|refine zA rfl ?_|refine zG rfl ?_|refine zQ ?_|refine zR ?_|refine zS ?_)
    exact ex_retc ret Try.func60 rfl ⟨none, 0, rfl, rfl⟩
  · subst h1
    obtain ⟨d, hd⟩ : ∃ d : Array Int, d = (qs.map (·.seq)).toArray := ⟨_, rfl⟩
    have hdl : d.toList = qs.map (·.seq) := by rw [hd]
    have hcells : qs.map qV ++ slack = dC d slack := by
      unfold dC; rw [hdl, List.map_map]; rfl
    rw [hcells]
    have hsz : d.size = qs.length := by rw [hd]; simp
    have hlen := ok.len
    repeat (first|refine zA rfl ?_|refine zS ?_)
    refine rg_call rfl (sort_ok bl qs.length cap d slack _ hsz (by omega)) ?_
    rintro _ _ ⟨e, rfl, e1, e2, e3, rfl⟩
    refine ⟨.inl rfl, ?_⟩
    have hes : e.toList = l.map (·.seq) := by
      refine List.Perm.eq_of_pairwise (le := fun x y : Int => x ≤ y) (fun a b _ _ h1 h2 => by omega) e3 ?_ ?_
      · rw [List.pairwise_map]; exact ok.sorted.imp fun h => by omega
      · rw [hdl] at e2; exact e2.trans (hq.map _)
    have hce : dC e slack = l.map qV ++ slack := by
      unfold dC; rw [hes, List.map_map]; rfl
    dsimp only [dCh]
    rw [hce]
    repeat (first|refine zQ ?_|refine zR ?_)
    rw [hql] at hz ⊢
    refine Ex.ent (EntR.e (slv_fold (m := 1) (xs := l.map qV) (len := l.length) (bl, cap, slack) ⟨hz.1, by simp, hz.2.2⟩)) ?_
    repeat (first|refine zA rfl ?_|refine zG rfl ?_|refine zQ ?_|refine zS ?_)
    exact ex_retc ret Try.func60 rfl ⟨_, _, rfl, rfl⟩

/-- What Look tells. -/
abbrev lookL (s : Cn) (kn : Hd) (v : Value) : List Value := [.int .u64 s.hd.height, .int .u64 s.hd.time, .int .u64 kn.height, .bool s.hd.opn, .int .u64 s.nsend, .int .u64 s.hd.nrecv, v, .int .u64 s.locked, .int .u64 s.about]

theorem okL_of {B : Nat} {s : Cn} (ok : Ok B s) (hB : B < 100000000) : OkL s.hd.packets (s.nsend - 1).toNat where
  sorted := ok.hd.sorted
  seqs := fun p hp => by
    have h1 := ok.below p hp
    have h2 := ok.hd.seqs p hp
    omega
  len := by have := ok.count; omega

set_option maxHeartbeats 2000000 in
theorem look_ok (c : Nat) (s : Cn) (kn : Hd) (B : Nat) (Γ : List Ch) (ok : Ok B s) (hB : B < 100000000) :
    CallsX Try.prog 43 #[.pointer (some ⟨c, 0, none⟩)] (.pr (ChainAt c s kn) :: Γ)
      (fun v Δ => ∃ b a cap, v = .agg ⟨lookL s kn (.slice a s.hd.packets.length cap)⟩ ∧ Δ = .pt b true (.cells ⟨lookL s kn (.slice a s.hd.packets.length cap)⟩ 55 (0, 0)) :: .pr (SlV 36 1 (.slice a s.hd.packets.length cap) (s.hd.packets.map qV) s.hd.packets.length) :: .pr (ChainAt c s kn) :: Γ) := by
  refine CallsX.open_ chainH_open fun (y, z) oky => ?_
  dsimp only at oky ⊢
  refine calls_of_body (args := [.pointer (some ⟨c, 0, none⟩)]) Try.func43 rfl Try.ntmps43 fun X cs ret => ?_
  repeat refine zR ?_
  refine rg_start_s ?_
  repeat (first|refine zQ ?_|refine zR ?_|refine zW fun bl=>?_)
  (refine rg_start_p [0, 1, 2, 3, 4, 5, 6, 7, 8, 9, 10, 11, 12, 13, 14, 15, 16, 17, 18, 19, 20, 21, 22, 23, 24, 25, 26, 27, 28, 29, 30, 31, 32, 33, 34, 35, 38, 39, 40, 41, 42, 43, 44, 45, 36, 37, 46, 47] (by decide +kernel) (by decide +kernel) (by simp only [permL, List.getElem?_cons_succ, List.getElem?_cons_zero]; rfl) ?_)
  repeat (first|refine zA rfl ?_|refine zC rfl ?_|refine zD rfl ?_|refine zE rfl ?_|refine zF rfl ?_)
  refine rg_call rfl (keys_ok y.pd _) ?_
  rintro _ _ ⟨mb, rfl, rfl⟩
  refine ⟨.inr (by (repeat' first | exact trivial | refine ⟨.inr ⟨_, _, _, _, Find.mem, rfl⟩, ?_⟩ | refine ⟨.inr ⟨_, _, _, _, Find.mem, inferInstance⟩, ?_⟩ | refine ⟨.inr ⟨_, Find.mem⟩, ?_⟩ | refine ⟨.inl (by decide +kernel), ?_⟩)), ?_⟩
  (refine Rg.front 11 ?_; refine Rg.front 11 ?_; refine Rg.front 11 ?_; refine Rg.front 11 ?_; refine Rg.front 11 ?_; refine Rg.front 11 ?_; refine Rg.front 11 ?_; refine Rg.front 10 ?_; refine Rg.front 10 ?_; refine Rg.front 10 ?_; refine Rg.front 11 ?_; refine Rg.front 11 ?_)
  refine rg_call rfl (sorted_ok y.pd mb _ _ _ s.hd.packets _ (okL_of ok hB)) ?_
  rintro _ _ ⟨a, cap, rfl, rfl⟩
  refine ⟨.inr (by (repeat' first | exact trivial | refine ⟨.inr ⟨_, _, _, _, Find.mem, rfl⟩, ?_⟩ | refine ⟨.inr ⟨_, _, _, _, Find.mem, inferInstance⟩, ?_⟩ | refine ⟨.inr ⟨_, Find.mem⟩, ?_⟩ | refine ⟨.inl (by decide +kernel), ?_⟩)), ?_⟩
  repeat (first|refine zO rfl rfl ?_|refine zQ ?_|refine zY rfl ?_)
  (refine Ex.front 11 ?_; refine Ex.front 11 ?_; refine Ex.front 11 ?_; refine Ex.front 11 ?_; refine Ex.front 11 ?_; refine Ex.front 11 ?_; refine Ex.front 11 ?_; refine Ex.front 8 ?_; refine Ex.front 11 ?_; refine Ex.front 11 ?_; refine Ex.front 10 ?_; refine Ex.front 11 ?_)
  refine ex_retC ret Try.func43 (Ent.cons (Ent.cons (EntR.e (chainH_fold y z (by exact oky))))) (.agg rfl (List.mem_cons_self ..) inferInstance .nil) ⟨_, a, cap, rfl, rfl⟩

end Go.Br

namespace Go.Br
open Go Go.Lx Go.Proofs
open Go.Lx renaming rg_move → zA, rg_int → zB, rg_nilCheck → zC, rg_fieldAddr0 → zD, rg_fieldAddr → zE, rg_load → zF, rg_assign → zG, rg_loadAgg → zH, rg_extract → zI, rg_not → zJ, rg_pick → zK, rg_off → zL, rg_offU → zM, rg_store → zN, rg_storeAgg → zO, rg_convInt → zP, rg_done → zQ, ex_seq → zR, rg_start_s → zS, rg_start_d → zT, ex_cond_true → zU, ex_cond_false → zV, rg_alloc → zW, rg_boxAgg → zX, rg_build → zY, rg_lenSl → zZ, rg_lenMap → yA, ex_skip → yB, ex_block → yC, ex_inBlock → yD, ex_exit → yE, rg_caseG → yZ
set_option maxRecDepth 100000

abbrev brC (b : Nat) (p : Bool) (c0 c1 : Nat) (tk : Int) : Ch := .pt b p (.cells ⟨[ptrV c0, ptrV c1, .int .i64 tk]⟩ 106 (0, 0))

theorem add64_ok (b c0 c1 : Nat) (tk : Int) (Γ : List Ch) :
    CallsX Try.prog 59 #[.pointer (some ⟨b, 2, none⟩), .int .i64 1] (brC b true c0 c1 tk :: Γ)
      (fun v Δ => ∃ w, v = .int .i64 w ∧ Δ = brC b true c0 c1 (IntKind.wrap .i64 (tk + 1)) :: Γ) := by
  refine calls_of_body (args := [.pointer (some ⟨b, 2, none⟩), .int .i64 1]) Try.func59 rfl Try.ntmps59 fun X cs ret => ?_
  repeat (first|refine zA rfl ?_|refine zC rfl ?_|refine zD rfl ?_|refine zG rfl ?_|refine zQ ?_|refine zR ?_|refine zS ?_)
  refine rg_ext rfl (φ := fun v Δ => v = .int .i64 (IntKind.wrap .i64 (tk + 1)) ∧ Δ = brC b true c0 c1 (IntKind.wrap .i64 (tk + 1)) :: Γ) ?_ ?_
  · intro h st
    have hb := Star.mem (List.mem_cons_self ..) st
    refine ⟨true, _, _, _, _, hb, rfl, rfl, ?_⟩
    refine ⟨rfl, _, _, _, _, hb, rfl, rfl, rfl, ?_⟩
    exact ⟨_, ⟨rfl, rfl⟩, st.put⟩
  · rintro _ _ ⟨rfl, rfl⟩
    refine ⟨.inl rfl, ?_⟩
    repeat (first|refine zG rfl ?_|refine zQ ?_)
    exact ex_retc ret Try.func59 rfl ⟨_, rfl, rfl⟩

theorem load64_ok (b c0 c1 : Nat) (p : Bool) (tk : Int) (Γ : List Ch) :
    CallsX Try.prog 50 #[.pointer (some ⟨b, 2, none⟩)] (brC b p c0 c1 tk :: Γ)
      (fun v Δ => v = .int .i64 tk ∧ Δ = brC b p c0 c1 tk :: Γ) := by
  refine calls_of_body (args := [.pointer (some ⟨b, 2, none⟩)]) Try.func50 rfl Try.ntmps50 fun X cs ret => ?_
  repeat (first|refine zA rfl ?_|refine zC rfl ?_|refine zD rfl ?_|refine zG rfl ?_|refine zQ ?_|refine zR ?_|refine zS ?_)
  refine rg_ext rfl (φ := fun v Δ => v = .int .i64 tk ∧ Δ = brC b p c0 c1 tk :: Γ) ?_ ?_
  · intro h st
    have hb := Star.mem (List.mem_cons_self ..) st
    refine ⟨p, _, _, _, _, hb, rfl, rfl, ?_⟩
    exact ⟨_, ⟨rfl, rfl⟩, st⟩
  · rintro _ _ ⟨rfl, rfl⟩
    refine ⟨.inl rfl, ?_⟩
    repeat (first|refine zG rfl ?_|refine zQ ?_)
    exact ex_retc ret Try.func50 rfl ⟨rfl, rfl⟩

/-- 'do': a step of a chain; it is counted. -/
theorem bdo_ok (b c0 c1 c hb : Nat) (tk : Int) (hp : Bool) (s : Cn) (kn : Hd) (x : Stp) (ps : List Nat) (xs : List Hd) (B : Nat) (Γ : List Ch) (ok : Ok B s) (okk : OkHd B kn) (hB : B < 100000000) (hx : 0 ≤ x.n ∧ x.n < 18446744073709551616) (hkn : kn.height = s.known) (hl : ps.length = xs.length) (hxl : xs.length < 1000000000) :
    CallsX Try.prog 42 #[ptrV b, ptrV c, stV x, .slice (some ⟨hb, 0, none⟩) xs.length xs.length] (brC b true c0 c1 tk :: .pr (ChainAt c s kn) :: .pt hb hp (.cells ⟨ps.map ptrV⟩ 111 (0, 0)) :: .pr (HeadsAt ps xs) :: Γ)
      (fun v Δ => v = .tuple #[.int .u64 (step s x kn xs.length).2.1, .int .i64 (step s x kn xs.length).2.2] ∧
        Δ = brC b true c0 c1 (if (step s x kn xs.length).2.2 = 0 then IntKind.wrap .i64 (tk + 1) else tk) :: .pr (ChainAt c (step s x kn xs.length).1 (stepKn s x kn xs)) :: .pt hb hp (.cells ⟨ps.map ptrV⟩ 111 (0, 0)) :: .pr (HeadsAt ps xs) :: Γ) := by
  refine calls_of_body (args := [ptrV b, ptrV c, stV x, .slice (some ⟨hb, 0, none⟩) xs.length xs.length]) Try.func42 rfl Try.ntmps42 fun X cs ret => ?_
  refine ex_seq (rg_start_s (rg_boxAgg rfl fun b1 => ?_))
  repeat (first|refine zA rfl ?_|refine zG rfl ?_|refine zH rfl ?_|refine zQ ?_|refine zR ?_|refine zS ?_)
  (refine Rg.front 1 ?_; refine Rg.front 1 ?_; refine Rg.front 4 ?_; refine Rg.front 4 ?_; refine Rg.front 4 ?_)
  refine rg_call rfl (do_ok c hb hp s kn x ps xs B _ ok okk hB hx hkn hl hxl) ?_
  rintro _ _ ⟨rfl, rfl⟩
  refine ⟨.inl rfl, ?_⟩
  repeat (first|refine zA rfl ?_|refine zB rfl rfl rfl ?_|refine zG rfl ?_|refine zI rfl rfl ?_|refine zQ ?_|refine zR ?_|refine zS ?_)
  refine ex_cond_split rfl (fun h1 => ?_) (fun h1 => ?_)
  · have h1 := of_decide_eq_true h1
    rw [if_pos h1] at ret
    repeat (first|refine zA rfl ?_|refine zC rfl ?_|refine zE rfl ?_|refine zS ?_)
    (refine Rg.front 3 ?_; refine Rg.front 3 ?_; refine Rg.front 3 ?_; refine Rg.front 3 ?_; refine Rg.front 4 ?_)
    refine rg_call rfl (add64_ok b c0 c1 tk _) ?_
    rintro _ _ ⟨w, rfl, rfl⟩
    refine ⟨.inl rfl, ?_⟩
    repeat (first|refine zA rfl ?_|refine zG rfl ?_|refine zQ ?_|refine zR ?_|refine zS ?_)
    (refine Ex.front 3 ?_; refine Ex.front 3 ?_; refine Ex.front 3 ?_; refine Ex.front 3 ?_; refine Ex.front 4 ?_)
    exact ex_rete ret Try.func42 rfl (Ent.drop (Ent.refl _)) ⟨rfl, rfl⟩
  · have h1 := of_decide_eq_false h1
    rw [if_neg h1] at ret
    repeat (first|refine zA rfl ?_|refine zG rfl ?_|refine zQ ?_|refine zR ?_|refine zS ?_|refine yB ?_)
    (refine Ex.front 2 ?_; refine Ex.front 2 ?_; refine Ex.front 2 ?_; refine Ex.front 4 ?_; refine Ex.front 4 ?_)
    exact ex_rete ret Try.func42 rfl (Ent.drop (Ent.refl _)) ⟨rfl, rfl⟩

end Go.Br

namespace Go.Br
open Go Go.Lx Go.Proofs
open Go.Lx renaming rg_move → zA, rg_int → zB, rg_nilCheck → zC, rg_fieldAddr0 → zD, rg_fieldAddr → zE, rg_load → zF, rg_assign → zG, rg_loadAgg → zH, rg_extract → zI, rg_not → zJ, rg_pick → zK, rg_off → zL, rg_offU → zM, rg_store → zN, rg_storeAgg → zO, rg_convInt → zP, rg_done → zQ, ex_seq → zR, rg_start_s → zS, rg_start_d → zT, ex_cond_true → zU, ex_cond_false → zV, rg_alloc → zW, rg_boxAgg → zX, rg_build → zY, rg_lenSl → zZ, rg_lenMap → yA, ex_skip → yB, ex_block → yC, ex_inBlock → yD, ex_exit → yE, rg_caseG → yZ
set_option maxRecDepth 100000

abbrev brL (b c0 c1 : Nat) (tk : Int) (s0 s1 : Cn) (k0 k1 : Hd) (Γ : List Ch) : List Ch := brC b true c0 c1 tk :: .pr (ChainAt c0 s0 k0) :: .pr (ChainAt c1 s1 k1) :: Γ

theorem ofX_ok (b : Nat) (c : Int) (Γ : List Ch) (h0 : c ≠ 0) (h1 : c ≠ 1) :
    CallsX Try.prog 41 #[ptrV b, .int .i64 c] Γ (fun v Δ => v = .tuple #[.pointer none, .slice none 0 0] ∧ Δ = Γ) := by
  refine calls_of_body (args := [ptrV b, .int .i64 c]) Try.func41 rfl Try.ntmps41 fun X cs ret => ?_
  repeat (first|refine zA rfl ?_|refine zB rfl rfl rfl ?_|refine zG rfl ?_|refine zQ ?_|refine zR ?_|refine zS ?_)
  refine rg_caseG rfl rfl (fun _ => ?_) (fun h => absurd h (by simp [h0]))
  repeat (first|refine zA rfl ?_|refine zB rfl rfl rfl ?_|refine zK rfl rfl ?_|refine zQ ?_)
  refine ex_cond_split rfl (fun _ => ?_) (fun h => absurd h (by simp [h1]))
  repeat (first|refine zG rfl ?_|refine zQ ?_|refine zR ?_|refine zS ?_)
  exact ex_retc ret Try.func41 rfl ⟨rfl, rfl⟩

set_option maxHeartbeats 1000000 in
theorem of0_ok (b c0 c1 : Nat) (tk : Int) (s0 s1 : Cn) (k0 k1 : Hd) (Γ : List Ch) (hB : s1.heads.length < 1000000000) :
    CallsX Try.prog 41 #[ptrV b, .int .i64 0] (brL b c0 c1 tk s0 s1 k0 k1 Γ)
      (fun v Δ => ∃ hb ps, ps.length = s1.heads.length ∧ v = .tuple #[ptrV c0, .slice (some ⟨hb, 0, none⟩) s1.heads.length s1.heads.length] ∧ Δ = .pt hb true (.cells ⟨ps.map ptrV⟩ 111 (0, 0)) :: .pr (HeadsAt ps s1.heads) :: brL b c0 c1 tk s0 s1 k0 k1 Γ) := by
  refine calls_of_body (args := [ptrV b, .int .i64 0]) Try.func41 rfl Try.ntmps41 fun X cs ret => ?_
  repeat (first|refine zA rfl ?_|refine zB rfl rfl rfl ?_|refine zC rfl ?_|refine zD rfl ?_|refine zG rfl ?_|refine zK rfl rfl ?_|refine zL rfl rfl rfl rfl (by decide) trivial rfl ?_|refine zQ ?_|refine zR ?_|refine zS ?_|refine zT (by decide+kernel) (by decide+kernel) ?_|refine zV rfl ?_|refine yB ?_)
  refine rg_indexArr rfl rfl (by decide) ?_
  repeat (first|refine zA rfl ?_|refine zB rfl rfl rfl ?_|refine zC rfl ?_|refine zD rfl ?_|refine zF rfl ?_)
  refine rg_indexArr rfl rfl (by decide) ?_
  repeat refine zF rfl ?_
  (refine Rg.front 2 ?_)
  refine rg_call rfl (heads_ok c1 s1 k1 _ hB) ?_
  rintro _ _ ⟨hb, ps, hlen, rfl, rfl⟩
  refine ⟨.inr (by (repeat' first | exact trivial | refine ⟨.inr ⟨_, _, _, _, Find.mem, rfl⟩, ?_⟩ | refine ⟨.inr ⟨_, _, _, _, Find.mem, inferInstance⟩, ?_⟩ | refine ⟨.inr ⟨_, Find.mem⟩, ?_⟩ | refine ⟨.inl (by decide +kernel), ?_⟩)), ?_⟩
  repeat (first|refine zG rfl ?_|refine zQ ?_)
  (refine Ex.front 2 ?_; refine Ex.front 4 ?_; refine Ex.front 4 ?_; refine Ex.front 4 ?_; refine Ex.front 4 ?_)
  exact ex_retc ret Try.func41 rfl ⟨hb, ps, hlen, rfl, rfl⟩

set_option maxHeartbeats 1000000 in
theorem of1_ok (b c0 c1 : Nat) (tk : Int) (s0 s1 : Cn) (k0 k1 : Hd) (Γ : List Ch) (hB : s0.heads.length < 1000000000) :
    CallsX Try.prog 41 #[ptrV b, .int .i64 1] (brL b c0 c1 tk s0 s1 k0 k1 Γ)
      (fun v Δ => ∃ hb ps, ps.length = s0.heads.length ∧ v = .tuple #[ptrV c1, .slice (some ⟨hb, 0, none⟩) s0.heads.length s0.heads.length] ∧ Δ = .pt hb true (.cells ⟨ps.map ptrV⟩ 111 (0, 0)) :: .pr (HeadsAt ps s0.heads) :: brL b c0 c1 tk s0 s1 k0 k1 Γ) := by
  refine calls_of_body (args := [ptrV b, .int .i64 1]) Try.func41 rfl Try.ntmps41 fun X cs ret => ?_
  repeat (first|refine zA rfl ?_|refine zB rfl rfl rfl ?_|refine zC rfl ?_|refine zD rfl ?_|refine zG rfl ?_|refine zK rfl rfl ?_|refine zQ ?_|refine zR ?_|refine zS ?_|refine zT (by decide+kernel) (by decide+kernel) ?_|refine zV rfl ?_|refine yB ?_)
  refine rg_indexArr rfl rfl (by decide) ?_
  repeat (first|refine zA rfl ?_|refine zB rfl rfl rfl ?_|refine zC rfl ?_|refine zD rfl ?_|refine zF rfl ?_)
  refine rg_indexArr rfl rfl (by decide) ?_
  repeat refine zF rfl ?_
  (refine Rg.front 1 ?_)
  refine rg_call rfl (heads_ok c0 s0 k0 _ hB) ?_
  rintro _ _ ⟨hb, ps, hlen, rfl, rfl⟩
  refine ⟨.inr (by (repeat' first | exact trivial | refine ⟨.inr ⟨_, _, _, _, Find.mem, rfl⟩, ?_⟩ | refine ⟨.inr ⟨_, _, _, _, Find.mem, inferInstance⟩, ?_⟩ | refine ⟨.inr ⟨_, Find.mem⟩, ?_⟩ | refine ⟨.inl (by decide +kernel), ?_⟩)), ?_⟩
  repeat (first|refine zG rfl ?_|refine zQ ?_)
  (refine Ex.front 4 ?_; refine Ex.front 3 ?_; refine Ex.front 4 ?_; refine Ex.front 4 ?_; refine Ex.front 4 ?_)
  exact ex_retc ret Try.func41 rfl ⟨hb, ps, hlen, rfl, rfl⟩

set_option maxHeartbeats 1000000 in
theorem Do0_ok (b c0 c1 : Nat) (tk : Int) (s0 s1 : Cn) (k0 k1 : Hd) (x : Stp) (B : Nat) (Γ : List Ch) (ok : Ok B s0) (oko : Ok B s1) (okk : OkHd B k0) (hB : B < 100000000) (hx : 0 ≤ x.n ∧ x.n < 18446744073709551616) (hkn : k0.height = s0.known) :
    CallsX Try.prog 22 #[ptrV b, .int .i64 0, stV x] (brL b c0 c1 tk s0 s1 k0 k1 Γ)
      (fun v Δ => v = .tuple #[.int .u64 (step s0 x k0 s1.heads.length).2.1, .int .i64 (step s0 x k0 s1.heads.length).2.2] ∧ Δ = brL b c0 c1 (if (step s0 x k0 s1.heads.length).2.2 = 0 then IntKind.wrap .i64 (tk + 1) else tk) (step s0 x k0 s1.heads.length).1 s1 (stepKn s0 x k0 s1.heads) k1 Γ) := by
  have hh := oko.len
  have hh2 := oko.hd.height
  refine CallsX.ent (Γ' := brL b c0 c1 tk s0 s1 k0 k1 Γ) (Ent.refl _) ?_
  refine calls_of_body (args := [ptrV b, .int .i64 0, stV x]) Try.func22 rfl Try.ntmps22 fun X cs ret => ?_
  refine ex_seq (rg_start_s (rg_boxAgg rfl fun b1 => ?_))
  repeat (first|refine zA rfl ?_|refine zG rfl ?_|refine zQ ?_|refine zR ?_|refine zS ?_)
  (refine Rg.front 0 ?_; refine Rg.front 3 ?_; refine Rg.front 3 ?_; refine Rg.front 3 ?_)
  refine rg_call rfl (of0_ok b c0 c1 tk s0 s1 k0 k1 _ (by omega)) ?_
  rintro _ _ ⟨hb, ps, hlen, rfl, rfl⟩
  refine ⟨.inl rfl, ?_⟩
  repeat (first|refine zA rfl ?_|refine zG rfl ?_|refine zI rfl rfl ?_|refine zQ ?_|refine zR ?_|refine zS ?_)
  refine rg_eqPtrNil rfl rfl ?_
  repeat (first|refine zA rfl ?_|refine zH rfl ?_|refine zQ ?_|refine zR ?_|refine zS ?_|refine zV rfl ?_|refine yB ?_)
  (refine Rg.front 5 ?_; refine Rg.front 5 ?_; refine Rg.front 3 ?_; refine Rg.front 3 ?_; refine Rg.front 5 ?_; refine Rg.front 5 ?_)
  refine rg_call rfl (bdo_ok b c0 c1 c0 hb tk true s0 k0 x ps s1.heads B _ ok okk hB hx hkn hlen (by omega)) ?_
  rintro _ _ ⟨rfl, rfl⟩
  refine ⟨.inl rfl, ?_⟩
  repeat (first|refine zG rfl ?_|refine zI rfl rfl ?_|refine zQ ?_)
  (refine Ex.front 4 ?_; refine Ex.front 2 ?_; refine Ex.front 2 ?_; refine Ex.front 5 ?_; refine Ex.front 5 ?_; refine Ex.front 5 ?_)
  exact ex_rete ret Try.func22 rfl (Ent.drop (Ent.drop (Ent.drop (Ent.refl _)))) ⟨rfl, rfl⟩

set_option maxHeartbeats 1000000 in
theorem Do1_ok (b c0 c1 : Nat) (tk : Int) (s0 s1 : Cn) (k0 k1 : Hd) (x : Stp) (B : Nat) (Γ : List Ch) (ok : Ok B s1) (oko : Ok B s0) (okk : OkHd B k1) (hB : B < 100000000) (hx : 0 ≤ x.n ∧ x.n < 18446744073709551616) (hkn : k1.height = s1.known) :
    CallsX Try.prog 22 #[ptrV b, .int .i64 1, stV x] (brL b c0 c1 tk s0 s1 k0 k1 Γ)
      (fun v Δ => v = .tuple #[.int .u64 (step s1 x k1 s0.heads.length).2.1, .int .i64 (step s1 x k1 s0.heads.length).2.2] ∧ Δ = brL b c0 c1 (if (step s1 x k1 s0.heads.length).2.2 = 0 then IntKind.wrap .i64 (tk + 1) else tk) s0 (step s1 x k1 s0.heads.length).1 k0 (stepKn s1 x k1 s0.heads) Γ) := by
  have hh := oko.len
  have hh2 := oko.hd.height
  refine CallsX.ent (Γ' := brL b c0 c1 tk s0 s1 k0 k1 Γ) (Ent.refl _) ?_
  refine calls_of_body (args := [ptrV b, .int .i64 1, stV x]) Try.func22 rfl Try.ntmps22 fun X cs ret => ?_
  refine ex_seq (rg_start_s (rg_boxAgg rfl fun b1 => ?_))
  repeat (first|refine zA rfl ?_|refine zG rfl ?_|refine zQ ?_|refine zR ?_|refine zS ?_)
  (refine Rg.front 0 ?_; refine Rg.front 3 ?_; refine Rg.front 3 ?_; refine Rg.front 3 ?_)
  refine rg_call rfl (of1_ok b c0 c1 tk s0 s1 k0 k1 _ (by omega)) ?_
  rintro _ _ ⟨hb, ps, hlen, rfl, rfl⟩
  refine ⟨.inl rfl, ?_⟩
  repeat (first|refine zA rfl ?_|refine zG rfl ?_|refine zI rfl rfl ?_|refine zQ ?_|refine zR ?_|refine zS ?_)
  refine rg_eqPtrNil rfl rfl ?_
  repeat (first|refine zA rfl ?_|refine zH rfl ?_|refine zQ ?_|refine zR ?_|refine zS ?_|refine zV rfl ?_|refine yB ?_)
  (refine Rg.front 5 ?_; refine Rg.front 4 ?_; refine Rg.front 3 ?_; refine Rg.front 3 ?_; refine Rg.front 5 ?_; refine Rg.front 5 ?_)
  refine rg_call rfl (bdo_ok b c0 c1 c1 hb tk true s1 k1 x ps s0.heads B _ ok okk hB hx hkn hlen (by omega)) ?_
  rintro _ _ ⟨rfl, rfl⟩
  refine ⟨.inl rfl, ?_⟩
  repeat (first|refine zG rfl ?_|refine zI rfl rfl ?_|refine zQ ?_)
  (refine Ex.front 1 ?_; refine Ex.front 4 ?_; refine Ex.front 2 ?_; refine Ex.front 5 ?_; refine Ex.front 5 ?_; refine Ex.front 5 ?_)
  exact ex_rete ret Try.func22 rfl (Ent.drop (Ent.drop (Ent.drop (Ent.refl _)))) ⟨rfl, rfl⟩

set_option maxHeartbeats 1000000 in
theorem Balance0_ok (b c0 c1 : Nat) (tk : Int) (s0 s1 : Cn) (k0 k1 : Hd) (u co : Int) (Γ : List Ch) (hB : s1.heads.length < 1000000000) :
    CallsX Try.prog 30 #[ptrV b, .int .i64 0, .int .i64 u, .int .i64 co] (brL b c0 c1 tk s0 s1 k0 k1 Γ)
      (fun v Δ => v = .int .u64 (s0.has u co) ∧ Δ = brL b c0 c1 tk s0 s1 k0 k1 Γ) := by
  refine calls_of_body (args := [ptrV b, .int .i64 0, .int .i64 u, .int .i64 co]) Try.func30 rfl Try.ntmps30 fun X cs ret => ?_
  repeat (first|refine zA rfl ?_|refine zG rfl ?_|refine zQ ?_|refine zR ?_|refine zS ?_)
  refine rg_call rfl (of0_ok b c0 c1 tk s0 s1 k0 k1 _ hB) ?_
  rintro _ _ ⟨hb, ps, hlen, rfl, rfl⟩
  refine ⟨.inl rfl, ?_⟩
  repeat (first|refine zA rfl ?_|refine zG rfl ?_|refine zI rfl rfl ?_|refine zQ ?_|refine zR ?_|refine zS ?_)
  refine rg_eqPtrNil rfl rfl ?_
  repeat (first|refine zA rfl ?_|refine zQ ?_|refine zR ?_|refine zS ?_|refine zV rfl ?_|refine yB ?_)
  (refine Rg.front 4 ?_; refine Rg.front 3 ?_; refine Rg.front 3 ?_; refine Rg.front 3 ?_; refine Rg.front 4 ?_)
  refine rg_call rfl (balance_ok c0 s0 k0 u co _) ?_
  rintro _ _ ⟨rfl, rfl⟩
  refine ⟨.inl rfl, ?_⟩
  repeat (first|refine zG rfl ?_|refine zQ ?_)
  (refine Ex.front 4 ?_; refine Ex.front 1 ?_; refine Ex.front 4 ?_; refine Ex.front 4 ?_; refine Ex.front 4 ?_)
  exact ex_rete ret Try.func30 rfl (Ent.drop (Ent.drop (Ent.refl _))) ⟨rfl, rfl⟩

set_option maxHeartbeats 1000000 in
theorem Look0_ok (b c0 c1 : Nat) (tk : Int) (s0 s1 : Cn) (k0 k1 : Hd) (B : Nat) (Γ : List Ch) (ok : Ok B s0) (hBB : B < 100000000) (hB : s1.heads.length < 1000000000) :
    CallsX Try.prog 25 #[ptrV b, .int .i64 0] (brL b c0 c1 tk s0 s1 k0 k1 Γ)
      (fun v Δ => ∃ b' a cap, v = .tuple #[.agg ⟨lookL s0 k0 (.slice a s0.hd.packets.length cap)⟩, .int .i64 0] ∧ Δ = .pt b' true (.cells ⟨lookL s0 k0 (.slice a s0.hd.packets.length cap)⟩ 55 (0, 0)) :: .pr (SlV 36 1 (.slice a s0.hd.packets.length cap) (s0.hd.packets.map qV) s0.hd.packets.length) :: brL b c0 c1 tk s0 s1 k0 k1 Γ) := by
  refine calls_of_body (args := [ptrV b, .int .i64 0]) Try.func25 rfl Try.ntmps25 fun X cs ret => ?_
  repeat (first|refine zA rfl ?_|refine zG rfl ?_|refine zQ ?_|refine zR ?_|refine zS ?_|refine zW fun bl=>?_)
  (refine Rg.front 0 ?_; refine Rg.front 3 ?_; refine Rg.front 3 ?_; refine Rg.front 3 ?_)
  refine rg_call rfl (of0_ok b c0 c1 tk s0 s1 k0 k1 _ hB) ?_
  rintro _ _ ⟨hb, ps, hlen, rfl, rfl⟩
  refine ⟨.inl rfl, ?_⟩
  repeat (first|refine zA rfl ?_|refine zG rfl ?_|refine zI rfl rfl ?_|refine zQ ?_|refine zR ?_|refine zS ?_)
  refine rg_eqPtrNil rfl rfl ?_
  repeat (first|refine zA rfl ?_|refine zQ ?_|refine zR ?_|refine zS ?_|refine zV rfl ?_|refine yB ?_)
  (refine Rg.front 5 ?_; refine Rg.front 5 ?_; refine Rg.front 4 ?_; refine Rg.front 4 ?_; refine Rg.front 4 ?_; refine Rg.front 5 ?_)
  refine rg_call rfl (look_ok c0 s0 k0 B _ ok hBB) ?_
  rintro _ _ ⟨b2, a, cap, rfl, rfl⟩
  refine ⟨.inl rfl, ?_⟩
  repeat (first|refine zG rfl ?_|refine zO rfl rfl ?_|refine zQ ?_)
  (refine Ex.front 6 ?_; refine Ex.front 3 ?_; refine Ex.front 6 ?_; refine Ex.front 4 ?_; refine Ex.front 7 ?_; refine Ex.front 7 ?_; refine Ex.front 7 ?_; refine Ex.front 7 ?_)
  refine ex_retC ret Try.func25 (Ent.drop (Ent.drop (Ent.drop (Ent.refl _)))) (.agg rfl (List.mem_cons_self ..) inferInstance (.tmp rfl .nil)) ⟨_, a, cap, rfl, rfl⟩

set_option maxHeartbeats 1000000 in
theorem Balance1_ok (b c0 c1 : Nat) (tk : Int) (s0 s1 : Cn) (k0 k1 : Hd) (u co : Int) (Γ : List Ch) (hB : s0.heads.length < 1000000000) :
    CallsX Try.prog 30 #[ptrV b, .int .i64 1, .int .i64 u, .int .i64 co] (brL b c0 c1 tk s0 s1 k0 k1 Γ)
      (fun v Δ => v = .int .u64 (s1.has u co) ∧ Δ = brL b c0 c1 tk s0 s1 k0 k1 Γ) := by
  refine calls_of_body (args := [ptrV b, .int .i64 1, .int .i64 u, .int .i64 co]) Try.func30 rfl Try.ntmps30 fun X cs ret => ?_
  repeat (first|refine zA rfl ?_|refine zG rfl ?_|refine zQ ?_|refine zR ?_|refine zS ?_)
  refine rg_call rfl (of1_ok b c0 c1 tk s0 s1 k0 k1 _ hB) ?_
  rintro _ _ ⟨hb, ps, hlen, rfl, rfl⟩
  refine ⟨.inl rfl, ?_⟩
  repeat (first|refine zA rfl ?_|refine zG rfl ?_|refine zI rfl rfl ?_|refine zQ ?_|refine zR ?_|refine zS ?_)
  refine rg_eqPtrNil rfl rfl ?_
  repeat (first|refine zA rfl ?_|refine zQ ?_|refine zR ?_|refine zS ?_|refine zV rfl ?_|refine yB ?_)
  (refine Rg.front 3 ?_; refine Rg.front 3 ?_; refine Rg.front 3 ?_; refine Rg.front 3 ?_; refine Rg.front 4 ?_)
  refine rg_call rfl (balance_ok c1 s1 k1 u co _) ?_
  rintro _ _ ⟨rfl, rfl⟩
  refine ⟨.inl rfl, ?_⟩
  repeat (first|refine zG rfl ?_|refine zQ ?_)
  (refine Ex.front 0 ?_; refine Ex.front 4 ?_; refine Ex.front 4 ?_; refine Ex.front 4 ?_; refine Ex.front 4 ?_)
  exact ex_rete ret Try.func30 rfl (Ent.drop (Ent.drop (Ent.refl _))) ⟨rfl, rfl⟩

set_option maxHeartbeats 1000000 in
theorem Look1_ok (b c0 c1 : Nat) (tk : Int) (s0 s1 : Cn) (k0 k1 : Hd) (B : Nat) (Γ : List Ch) (ok : Ok B s1) (hBB : B < 100000000) (hB : s0.heads.length < 1000000000) :
    CallsX Try.prog 25 #[ptrV b, .int .i64 1] (brL b c0 c1 tk s0 s1 k0 k1 Γ)
      (fun v Δ => ∃ b' a cap, v = .tuple #[.agg ⟨lookL s1 k1 (.slice a s1.hd.packets.length cap)⟩, .int .i64 0] ∧ Δ = .pt b' true (.cells ⟨lookL s1 k1 (.slice a s1.hd.packets.length cap)⟩ 55 (0, 0)) :: .pr (SlV 36 1 (.slice a s1.hd.packets.length cap) (s1.hd.packets.map qV) s1.hd.packets.length) :: brL b c0 c1 tk s0 s1 k0 k1 Γ) := by
  refine calls_of_body (args := [ptrV b, .int .i64 1]) Try.func25 rfl Try.ntmps25 fun X cs ret => ?_
  repeat (first|refine zA rfl ?_|refine zG rfl ?_|refine zQ ?_|refine zR ?_|refine zS ?_|refine zW fun bl=>?_)
  (refine Rg.front 0 ?_; refine Rg.front 3 ?_; refine Rg.front 3 ?_; refine Rg.front 3 ?_)
  refine rg_call rfl (of1_ok b c0 c1 tk s0 s1 k0 k1 _ hB) ?_
  rintro _ _ ⟨hb, ps, hlen, rfl, rfl⟩
  refine ⟨.inl rfl, ?_⟩
  repeat (first|refine zA rfl ?_|refine zG rfl ?_|refine zI rfl rfl ?_|refine zQ ?_|refine zR ?_|refine zS ?_)
  refine rg_eqPtrNil rfl rfl ?_
  repeat (first|refine zA rfl ?_|refine zQ ?_|refine zR ?_|refine zS ?_|refine zV rfl ?_|refine yB ?_)
  (refine Rg.front 5 ?_; refine Rg.front 4 ?_; refine Rg.front 4 ?_; refine Rg.front 4 ?_; refine Rg.front 4 ?_; refine Rg.front 5 ?_)
  refine rg_call rfl (look_ok c1 s1 k1 B _ ok hBB) ?_
  rintro _ _ ⟨b2, a, cap, rfl, rfl⟩
  refine ⟨.inl rfl, ?_⟩
  repeat (first|refine zG rfl ?_|refine zO rfl rfl ?_|refine zQ ?_)
  (refine Ex.front 2 ?_; refine Ex.front 6 ?_; refine Ex.front 6 ?_; refine Ex.front 4 ?_; refine Ex.front 7 ?_; refine Ex.front 7 ?_; refine Ex.front 7 ?_; refine Ex.front 7 ?_)
  refine ex_retC ret Try.func25 (Ent.drop (Ent.drop (Ent.drop (Ent.refl _)))) (.agg rfl (List.mem_cons_self ..) inferInstance (.tmp rfl .nil)) ⟨_, a, cap, rfl, rfl⟩

theorem BalanceX_ok (b : Nat) (c u co : Int) (Γ : List Ch) (h0 : c ≠ 0) (h1 : c ≠ 1) :
    CallsX Try.prog 30 #[ptrV b, .int .i64 c, .int .i64 u, .int .i64 co] Γ (fun v Δ => v = .int .u64 0 ∧ Δ = Γ) := by
  refine calls_of_body (args := [ptrV b, .int .i64 c, .int .i64 u, .int .i64 co]) Try.func30 rfl Try.ntmps30 fun X cs ret => ?_
  repeat (first|refine zA rfl ?_|refine zG rfl ?_|refine zQ ?_|refine zR ?_|refine zS ?_)
  refine rg_call rfl (ofX_ok b c _ h0 h1) ?_
  rintro _ _ ⟨rfl, rfl⟩
  refine ⟨.inl rfl, ?_⟩
  repeat (first|refine zA rfl ?_|refine zG rfl ?_|refine zI rfl rfl ?_|refine zQ ?_|refine zR ?_|refine zS ?_)
  refine rg_eqPtrNil rfl rfl ?_
  repeat (first|refine zG rfl ?_|refine zQ ?_|refine zR ?_|refine zS ?_|refine zU rfl ?_)
  exact ex_retc ret Try.func30 rfl ⟨rfl, rfl⟩

theorem DoX_ok (b : Nat) (c : Int) (x : Stp) (Γ : List Ch) (h0 : c ≠ 0) (h1 : c ≠ 1) :
    CallsX Try.prog 22 #[ptrV b, .int .i64 c, stV x] Γ (fun v Δ => v = .tuple #[.int .u64 0, .int .i64 1] ∧ Δ = Γ) := by
  refine calls_of_body (args := [ptrV b, .int .i64 c, stV x]) Try.func22 rfl Try.ntmps22 fun X cs ret => ?_
  refine ex_seq (rg_start_s (rg_boxAgg rfl fun b1 => ?_))
  repeat (first|refine zA rfl ?_|refine zG rfl ?_|refine zQ ?_|refine zR ?_|refine zS ?_)
  refine rg_call rfl (ofX_ok b c _ h0 h1) ?_
  rintro _ _ ⟨rfl, rfl⟩
  refine ⟨.inl rfl, ?_⟩
  repeat (first|refine zA rfl ?_|refine zG rfl ?_|refine zI rfl rfl ?_|refine zQ ?_|refine zR ?_|refine zS ?_)
  refine rg_eqPtrNil rfl rfl ?_
  repeat (first|refine zG rfl ?_|refine zQ ?_|refine zR ?_|refine zS ?_|refine zU rfl ?_)
  exact ex_rete ret Try.func22 rfl (Ent.drop (Ent.refl _)) ⟨rfl, rfl⟩

theorem Taken_ok (b c0 c1 : Nat) (tk : Int) (Γ : List Ch) (h : 0 ≤ tk ∧ tk < 1000000000) :
    CallsX Try.prog 35 #[ptrV b] (brC b true c0 c1 tk :: Γ) (fun v Δ => v = .int .i64 tk ∧ Δ = brC b true c0 c1 tk :: Γ) := by
  refine calls_of_body (args := [ptrV b]) Try.func35 rfl Try.ntmps35 fun X cs ret => ?_
  repeat (first|refine zA rfl ?_|refine zC rfl ?_|refine zE rfl ?_|refine zG rfl ?_|refine zQ ?_|refine zR ?_|refine zS ?_)
  refine rg_call rfl (load64_ok b c0 c1 true tk _) ?_
  rintro _ _ ⟨rfl, rfl⟩
  refine ⟨.inl rfl, ?_⟩
  repeat (first|refine zG rfl ?_|refine zQ ?_)
  exact ex_retc ret Try.func35 rfl ⟨rfl, rfl⟩

end Go.Br

namespace Go.Br
open Go Go.Lx Go.Proofs
open Go.Lx renaming rg_move → zA, rg_int → zB, rg_nilCheck → zC, rg_fieldAddr0 → zD, rg_fieldAddr → zE, rg_load → zF, rg_assign → zG, rg_loadAgg → zH, rg_extract → zI, rg_not → zJ, rg_pick → zK, rg_off → zL, rg_offU → zM, rg_store → zN, rg_storeAgg → zO, rg_convInt → zP, rg_done → zQ, ex_seq → zR, rg_start_s → zS, rg_start_d → zT, ex_cond_true → zU, ex_cond_false → zV, rg_alloc → zW, rg_boxAgg → zX, rg_build → zY, rg_lenSl → zZ, rg_lenMap → yA, ex_skip → yB, ex_block → yC, ex_inBlock → yD, ex_exit → yE, rg_caseG → yZ
set_option maxRecDepth 100000

/-- A header in short. -/
structure Sh where
  height : Int
  time : Int
  opn : Bool
  nrecv : Int
  np : Int
  na : Int
  deriving DecidableEq, Inhabited

end Go.Br

namespace Go.Lx
open Go
section
variable {P : Program} {X : Tgt} {b : Base} {n : Nat} {dr : Bool} {ops : Array Oper} {lo : Nat} {ex : List Nat} {fl : Floats} {E : Env} {rem : List Oper} {k : List Item} {cs : List Frame} {Γ : List Ch}
variable {d : Nat} {T : TypeId} {pos : String} {af : Array Edge} {gd : Option (Nat × Bool)}

/-- 'a[i]' of an array that is a value. -/
theorem rg_indexAgg {t len el : Nat} {x y : Operand} {vs : List Value} {v : Value} {kk : IntKind} {i : Int} [u : Under P t (.array len el)] [s : Scalar P el] [c : CellsOf P el 1] (hx : Env.val E x = some (.agg ⟨vs⟩)) (hy : Env.val E y = some (.int kk i))
    (hi : 0 ≤ i ∧ i < len) (hv : vs[i.toNat]? = some v) (e : Rg P X b n dr ops (lo + 1) ex fl ((d, v) :: E) rem k cs Γ)
    (hdn : d < n := by decide) (hex : NotYet ex lo := trivial) (hg : GuardOK ops ⟨some d, .index t x y, T, pos, af, gd⟩ E := by first | exact trivial | exact ⟨_, rfl, rfl⟩) :
    Rg P X b n dr ops lo ex fl E (⟨some d, .index t x y, T, pos, af, gd⟩ :: rem) k cs Γ :=
  rg_pure rfl hdn hex rfl hg (fun _ ρ h hρ _ => by
    have h1 := hρ x (by simp [Op.operands]) _ hx
    have h2 := hρ y (by simp [Op.operands]) _ hy
    obtain ⟨ci, c1, c2⟩ := c.size
    simp only [execOp, wpE_bind', h1, h2, Instr.index, asIntOf, wpE_pure, wpE_underlying u.eq, hi.1, hi.2, and_self, if_true, wpE_sizeOf c1, c2]
    refine wpE_part (v := v) (by simpa using hv) ?_
    exact ⟨rfl, rfl⟩) e
end
end Go.Lx
namespace Go.Br
open Go Go.Lx Go.Proofs
open Go.Lx renaming rg_move → zA, rg_int → zB, rg_nilCheck → zC, rg_fieldAddr0 → zD, rg_fieldAddr → zE, rg_load → zF, rg_assign → zG, rg_loadAgg → zH, rg_extract → zI, rg_not → zJ, rg_pick → zK, rg_off → zL, rg_offU → zM, rg_store → zN, rg_storeAgg → zO, rg_convInt → zP, rg_done → zQ, ex_seq → zR, rg_start_s → zS, rg_start_d → zT, ex_cond_true → zU, ex_cond_false → zV, rg_alloc → zW, rg_boxAgg → zX, rg_build → zY, rg_lenSl → zZ, rg_lenMap → yA, ex_skip → yB, ex_block → yC, ex_inBlock → yD, ex_exit → yE, rg_caseG → yZ
set_option maxRecDepth 100000

theorem newCn_heads (n co : Int) : (newCn n co).heads = [(newCn n co).hd] := rfl
abbrev hd0 : Hd := { height := 0, time := 0, opn := true, nrecv := 1, packets := [], answers := [] }

set_option maxHeartbeats 4000000 in
theorem bNew_ok (co : Int) (Γ : List Ch) (hc : 0 ≤ co ∧ co ≤ 1152921504606846976) :
    CallsX Try.prog 26 #[.int .u64 co] Γ
      (fun v Δ => ∃ b c0 c1, v = .tuple #[ptrV b, .int .i64 0] ∧ Δ = brL b c0 c1 0 (newCn 0 co) (newCn 1 co) hd0 hd0 Γ) := by
  refine calls_of_body (args := [.int .u64 co]) Try.func26 rfl Try.ntmps26 fun X cs ret => ?_
  repeat (first|refine zA rfl ?_|refine zB rfl rfl rfl ?_|refine zG rfl ?_|refine zQ ?_|refine zR ?_|refine zS ?_)
  refine ex_cond_split rfl (fun h1 => ?_) (fun _ => ?_)
  · exact absurd (of_decide_eq_true h1) (by omega)
  repeat (first|refine zA rfl ?_|refine zG rfl ?_|refine zQ ?_|refine zR ?_|refine zS ?_|refine zX rfl fun bl=>?_|refine zY rfl ?_|refine yB ?_|refine yC ?_)
  refine ex_loop ?_
  repeat (first|refine zA rfl ?_|refine zB rfl rfl rfl ?_|refine zG rfl ?_|refine zQ ?_|refine zR ?_|refine zS ?_|refine zU rfl ?_|refine yB ?_|refine yC ?_)
  (refine rg_start_p [0, 1, 2, 3, 5, 6, 4, 7, 8] (by decide +kernel) (by decide +kernel) (by simp only [permL, List.getElem?_cons_succ, List.getElem?_cons_zero]; rfl) ?_)
  repeat (first|refine zA rfl ?_|refine zC rfl ?_|refine zD rfl ?_)
  refine rg_call rfl (new_ok 0 co _ hc.1) ?_
  rintro _ _ ⟨c0, rfl, rfl⟩
  refine ⟨.inr (by (repeat' first | exact trivial | refine ⟨.inr ⟨_, _, _, _, Find.mem, rfl⟩, ?_⟩ | refine ⟨.inr ⟨_, _, _, _, Find.mem, inferInstance⟩, ?_⟩ | refine ⟨.inr ⟨_, Find.mem⟩, ?_⟩ | refine ⟨.inl (by decide +kernel), ?_⟩)), ?_⟩
  skip
  refine rg_indexArr rfl rfl (by decide) ?_
  rw [show (0 + Int.toNat 0 * 1 : Nat) = 0 from rfl]
  repeat (first|refine zA rfl ?_|refine zB rfl rfl rfl ?_|refine zN rfl rfl ?_|refine zQ ?_|refine zS ?_|refine yD ?_)
  rw [show IntKind.wrap .i64 (0 + 1) = 1 from by decide]
  skip
  refine ex_inLoop ?_
  repeat (first|refine zA rfl ?_|refine zB rfl rfl rfl ?_|refine zG rfl ?_|refine zQ ?_|refine zR ?_|refine zS ?_|refine zU rfl ?_|refine yB ?_|refine yC ?_)
  (refine rg_start_p [0, 1, 2, 3, 5, 6, 4, 7, 8] (by decide +kernel) (by decide +kernel) (by simp only [permL, List.getElem?_cons_succ, List.getElem?_cons_zero]; rfl) ?_)
  repeat (first|refine zA rfl ?_|refine zC rfl ?_|refine zD rfl ?_)
  refine rg_call rfl (new_ok 1 co _ hc.1) ?_
  rintro _ _ ⟨c1, rfl, rfl⟩
  refine ⟨.inr (by (repeat' first | exact trivial | refine ⟨.inr ⟨_, _, _, _, Find.mem, rfl⟩, ?_⟩ | refine ⟨.inr ⟨_, _, _, _, Find.mem, inferInstance⟩, ?_⟩ | refine ⟨.inr ⟨_, Find.mem⟩, ?_⟩ | refine ⟨.inl (by decide +kernel), ?_⟩)), ?_⟩
  skip
  refine rg_indexArr rfl rfl (by decide) ?_
  rw [show (0 + Int.toNat 1 * 1 : Nat) = 1 from rfl]
  repeat (first|refine zA rfl ?_|refine zB rfl rfl rfl ?_|refine zN rfl rfl ?_|refine zQ ?_|refine zS ?_|refine yD ?_)
  rw [show IntKind.wrap .i64 (1 + 1) = 2 from by decide]
  skip
  refine ex_inLoop ?_
  repeat (first|refine zA rfl ?_|refine zB rfl rfl rfl ?_|refine zC rfl ?_|refine zD rfl ?_|refine zH rfl ?_|refine zQ ?_|refine zR ?_|refine zS ?_|refine zV rfl ?_|refine yC ?_|refine yE rfl ?_)
  refine ex_loop ?_
  repeat (first|refine zA rfl ?_|refine zB rfl rfl rfl ?_|refine zQ ?_|refine zR ?_|refine zS ?_|refine zU rfl ?_|refine yB ?_|refine yC ?_)
  refine rg_indexAgg (v := ptrV c0) rfl rfl (by decide) rfl ?_
  repeat (first|refine zA rfl ?_|refine zB rfl rfl rfl ?_|refine zC rfl ?_|refine zD rfl ?_|refine zG rfl ?_|refine zQ ?_|refine zS ?_)
  refine rg_indexArr rfl rfl (by decide) ?_
  repeat refine zF rfl ?_
  refine rg_call rfl (meet_ok c0 c1 (newCn 0 co) (newCn 1 co) (newCn 0 co).hd (newCn 1 co).hd (newCn 1 co).hd [] _ (newCn_heads 1 co)) ?_
  rintro _ _ ⟨rfl, rfl⟩
  refine ⟨.inl rfl, ?_⟩
  repeat (first|refine zA rfl ?_|refine zB rfl rfl rfl ?_|refine zQ ?_|refine zS ?_|refine yD ?_)
  rw [show IntKind.wrap .i64 (0 + 1) = 1 from by decide]
  refine ex_inLoop ?_
  repeat (first|refine zA rfl ?_|refine zB rfl rfl rfl ?_|refine zQ ?_|refine zR ?_|refine zS ?_|refine zU rfl ?_|refine yB ?_|refine yC ?_)
  refine rg_indexAgg (v := ptrV c1) rfl rfl (by decide) rfl ?_
  repeat (first|refine zA rfl ?_|refine zB rfl rfl rfl ?_|refine zC rfl ?_|refine zD rfl ?_|refine zG rfl ?_|refine zQ ?_|refine zS ?_)
  refine rg_indexArr rfl rfl (by decide) ?_
  repeat refine zF rfl ?_
  (refine Rg.front 1 ?_)
  refine rg_call rfl (meet_ok c1 c0 (newCn 1 co) (newCn 0 co) (newCn 1 co).hd (newCn 1 co).hd (newCn 0 co).hd [] _ (newCn_heads 0 co)) ?_
  rintro _ _ ⟨rfl, rfl⟩
  refine ⟨.inl rfl, ?_⟩
  repeat (first|refine zA rfl ?_|refine zB rfl rfl rfl ?_|refine zQ ?_|refine zS ?_|refine yD ?_)
  rw [show IntKind.wrap .i64 (1 + 1) = 2 from by decide]
  refine ex_inLoop ?_
  repeat (first|refine zA rfl ?_|refine zB rfl rfl rfl ?_|refine zG rfl ?_|refine zQ ?_|refine zR ?_|refine zS ?_|refine zV rfl ?_|refine yE rfl ?_)
  (refine Ex.front 1 ?_; refine Ex.front 1 ?_; refine Ex.front 2 ?_)
  exact ex_retc ret Try.func26 rfl ⟨bl, c0, c1, rfl, rfl⟩

end Go.Br

namespace Go.Br
open Go Go.Lx Go.Proofs
set_option maxRecDepth 100000

/-- A bridge of the program at a block. -/
def BgAt (b : Nat) (S : Bg) : LH → Prop := fun h => ∃ z : Nat × Nat, Star (brL b z.1 z.2 S.tk S.s0 S.s1 (knOf S.s0 S.s1) (knOf S.s1 S.s0) []) h

theorem bg_open {b : Nat} {S : Bg} {Γ : List Ch} : ∀ h, Star (.pr (BgAt b S) :: Γ) h → ∃ z : Nat × Nat, True ∧ Star (brL b z.1 z.2 S.tk S.s0 S.s1 (knOf S.s0 S.s1) (knOf S.s1 S.s0) Γ) h := fun h st => by
  obtain ⟨z, st⟩ := Star.ex.1 st
  exact ⟨z, trivial, Star.open_.1 st⟩

theorem bg_fold {b : Nat} {S : Bg} {Γ : List Ch} (c0 c1 : Nat) {tk : Int} {s0 s1 : Cn} {k0 k1 : Hd} (h1 : tk = S.tk) (h2 : s0 = S.s0) (h3 : s1 = S.s1) (h4 : k0 = knOf S.s0 S.s1) (h5 : k1 = knOf S.s1 S.s0) : Ent (brL b c0 c1 tk s0 s1 k0 k1 Γ) (.pr (BgAt b S) :: Γ) := by
  subst h1; subst h2; subst h3; subst h4; subst h5
  exact .star fun h st => Star.ex.2 ⟨(c0, c1), Star.open_.2 st⟩

theorem stepKn_eq {B : Nat} {s o : Cn} (ok : Ok B o) (h : s.known < o.heads.length) (x : Stp) (hx : 0 ≤ x.n) : stepKn s x (knOf s o) o.heads = knOf (step s x (knOf s o) o.heads.length).1 o := by
  obtain ⟨_, _, f3⟩ := step_frame s x (knOf s o) o.heads.length
  rw [show knOf (step s x (knOf s o) o.heads.length).1 o = o.heads.getD (step s x (knOf s o) o.heads.length).1.known default from rfl, f3]
  unfold stepKn
  split
  · split
    · rfl
    · have hl : x.n.toNat < o.heads.length := by omega
      rw [List.getD_eq_getElem?_getD, List.getD_eq_getElem?_getD, List.getElem?_eq_getElem hl]; rfl
  · rfl

theorem heads_len {B : Nat} {s : Cn} (ok : Ok B s) (hB : B < 100000000) : s.heads.length < 1000000000 := by
  have := ok.len; have := ok.hd.height; omega

theorem wrap_tk {t : Int} (h : 0 ≤ t ∧ t < 1000000000) : IntKind.wrap .i64 (t + 1) = t + 1 := wIn (by omega) (by omega)

theorem Do_bg (b : Nat) (S : Bg) (c : Int) (x : Stp) (B : Nat) (Γ : List Ch) (ok : BgOk B S) (hB : B < 100000000) (hx : 0 ≤ x.n ∧ x.n < 18446744073709551616) :
    CallsX Try.prog 22 #[ptrV b, .int .i64 c, stV x] (.pr (BgAt b S) :: Γ)
      (fun v Δ => v = .tuple #[.int .u64 (bgDo S c x).2.1, .int .i64 (bgDo S c x).2.2] ∧ Ent Δ (.pr (BgAt b (bgDo S c x).1) :: Γ)) := by
  have htk := ok.tk
  refine CallsX.open_ bg_open fun z _ => ?_
  obtain ⟨c0, c1⟩ := z
  dsimp only
  by_cases h0 : c = 0
  · subst h0
    obtain ⟨a1, a2⟩ := knOf_ok ok.ok1 ok.k0
    refine (Do0_ok b c0 c1 S.tk S.s0 S.s1 _ _ x B Γ ok.ok0 ok.ok1 a1 hB hx a2).mono ?_
    rintro v Δ ⟨rfl, rfl⟩
    refine ⟨rfl, bg_fold c0 c1 ?_ rfl rfl ?_ ?_⟩
    · show _ = if _ = 0 then S.tk + 1 else S.tk
      rw [wrap_tk (by omega)]; rfl
    · exact stepKn_eq ok.ok1 ok.k0 x hx.1
    · exact ((knOf_other ok x _ _).1).symm
  by_cases h1 : c = 1
  · subst h1
    obtain ⟨a1, a2⟩ := knOf_ok ok.ok0 ok.k1
    refine (Do1_ok b c0 c1 S.tk S.s0 S.s1 _ _ x B Γ ok.ok1 ok.ok0 a1 hB hx a2).mono ?_
    rintro v Δ ⟨rfl, rfl⟩
    refine ⟨rfl, bg_fold c0 c1 ?_ rfl rfl ?_ ?_⟩
    · show _ = if _ = 0 then S.tk + 1 else S.tk
      rw [wrap_tk (by omega)]; rfl
    · exact ((knOf_other ok x _ _).2).symm
    · exact stepKn_eq ok.ok0 ok.k1 x hx.1
  · have e : bgDo S c x = (S, 0, 1) := by unfold bgDo bgStep; rw [if_neg h0, if_neg h1]
    rw [e]
    refine (DoX_ok b c x _ h0 h1).mono ?_
    rintro v Δ ⟨rfl, rfl⟩
    exact ⟨rfl, bg_fold c0 c1 rfl rfl rfl rfl rfl⟩

/-- What Balance answers. -/
def bgBal (S : Bg) (c u co : Int) : Int := if c = 0 then S.s0.has u co else if c = 1 then S.s1.has u co else 0

theorem Balance_bg (b : Nat) (S : Bg) (c u co : Int) (B : Nat) (Γ : List Ch) (ok : BgOk B S) (hB : B < 100000000) :
    CallsX Try.prog 30 #[ptrV b, .int .i64 c, .int .i64 u, .int .i64 co] (.pr (BgAt b S) :: Γ)
      (fun v Δ => v = .int .u64 (bgBal S c u co) ∧ Ent Δ (.pr (BgAt b S) :: Γ)) := by
  refine CallsX.open_ bg_open fun z _ => ?_
  obtain ⟨c0, c1⟩ := z
  dsimp only
  by_cases h0 : c = 0
  · subst h0
    refine (Balance0_ok b c0 c1 S.tk S.s0 S.s1 _ _ u co Γ (heads_len ok.ok1 hB)).mono ?_
    rintro v Δ ⟨rfl, rfl⟩
    exact ⟨rfl, bg_fold c0 c1 rfl rfl rfl rfl rfl⟩
  by_cases h1 : c = 1
  · subst h1
    refine (Balance1_ok b c0 c1 S.tk S.s0 S.s1 _ _ u co Γ (heads_len ok.ok0 hB)).mono ?_
    rintro v Δ ⟨rfl, rfl⟩
    exact ⟨rfl, bg_fold c0 c1 rfl rfl rfl rfl rfl⟩
  · have e : bgBal S c u co = 0 := by unfold bgBal; rw [if_neg h0, if_neg h1]
    rw [e]
    refine (BalanceX_ok b c u co _ h0 h1).mono ?_
    rintro v Δ ⟨rfl, rfl⟩
    exact ⟨rfl, bg_fold c0 c1 rfl rfl rfl rfl rfl⟩

theorem Look0_bg (b : Nat) (S : Bg) (B : Nat) (Γ : List Ch) (ok : BgOk B S) (hB : B < 100000000) :
    CallsX Try.prog 25 #[ptrV b, .int .i64 0] (.pr (BgAt b S) :: Γ)
      (fun v Δ => ∃ a cap, v = .tuple #[.agg ⟨lookL S.s0 (knOf S.s0 S.s1) (.slice a S.s0.hd.packets.length cap)⟩, .int .i64 0] ∧
        Ent Δ (.pr (SlV 36 1 (.slice a S.s0.hd.packets.length cap) (S.s0.hd.packets.map qV) S.s0.hd.packets.length) :: .pr (BgAt b S) :: Γ)) := by
  refine CallsX.open_ bg_open fun z _ => ?_
  obtain ⟨c0, c1⟩ := z
  dsimp only
  refine (Look0_ok b c0 c1 S.tk S.s0 S.s1 _ _ B Γ ok.ok0 hB (heads_len ok.ok1 hB)).mono ?_
  rintro v Δ ⟨b', a, cap, rfl, rfl⟩
  exact ⟨a, cap, rfl, Ent.drop (Ent.cons (bg_fold c0 c1 rfl rfl rfl rfl rfl))⟩

theorem Look1_bg (b : Nat) (S : Bg) (B : Nat) (Γ : List Ch) (ok : BgOk B S) (hB : B < 100000000) :
    CallsX Try.prog 25 #[ptrV b, .int .i64 1] (.pr (BgAt b S) :: Γ)
      (fun v Δ => ∃ a cap, v = .tuple #[.agg ⟨lookL S.s1 (knOf S.s1 S.s0) (.slice a S.s1.hd.packets.length cap)⟩, .int .i64 0] ∧
        Ent Δ (.pr (SlV 36 1 (.slice a S.s1.hd.packets.length cap) (S.s1.hd.packets.map qV) S.s1.hd.packets.length) :: .pr (BgAt b S) :: Γ)) := by
  refine CallsX.open_ bg_open fun z _ => ?_
  obtain ⟨c0, c1⟩ := z
  dsimp only
  refine (Look1_ok b c0 c1 S.tk S.s0 S.s1 _ _ B Γ ok.ok1 hB (heads_len ok.ok0 hB)).mono ?_
  rintro v Δ ⟨b', a, cap, rfl, rfl⟩
  exact ⟨a, cap, rfl, Ent.drop (Ent.cons (bg_fold c0 c1 rfl rfl rfl rfl rfl))⟩

theorem Taken_bg (b : Nat) (S : Bg) (B : Nat) (Γ : List Ch) (ok : BgOk B S) (hB : B < 100000000) :
    CallsX Try.prog 35 #[ptrV b] (.pr (BgAt b S) :: Γ) (fun v Δ => v = .int .i64 S.tk ∧ Ent Δ (.pr (BgAt b S) :: Γ)) := by
  have htk := ok.tk
  refine CallsX.open_ bg_open fun z _ => ?_
  obtain ⟨c0, c1⟩ := z
  dsimp only
  refine (Taken_ok b c0 c1 S.tk _ (by omega)).mono ?_
  rintro v Δ ⟨rfl, rfl⟩
  exact ⟨rfl, bg_fold c0 c1 rfl rfl rfl rfl rfl⟩

abbrev bgNew (co : Int) : Bg := ⟨newCn 0 co, newCn 1 co, 0⟩

theorem New_bg (co : Int) (Γ : List Ch) (hc : 0 ≤ co ∧ co ≤ 1152921504606846976) :
    CallsX Try.prog 26 #[.int .u64 co] Γ (fun v Δ => ∃ b, v = .tuple #[ptrV b, .int .i64 0] ∧ Ent Δ (.pr (BgAt b (bgNew co)) :: Γ)) :=
  (bNew_ok co Γ hc).mono (by rintro v Δ ⟨b, c0, c1, rfl, rfl⟩; exact ⟨b, rfl, bg_fold c0 c1 rfl rfl rfl rfl rfl⟩)

end Go.Br
