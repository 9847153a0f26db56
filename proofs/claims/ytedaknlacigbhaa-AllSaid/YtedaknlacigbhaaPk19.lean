/-
  Lemmas towards the law, proved without conditions of their own: Contracts: slices.Sorted at the keys of the map of packets; Look of package chain; Contracts of package bridge: the atomic number; do; of; Contracts of package bridge: of, Do, Balance, Look, Head, Taken, at each chain. (Printed by wip/tools/gen_br2.py.); Contracts of package bridge: Head, Same, New. (Printed by wip/tools/gen_br3.py.).
-/
import Derived.Test.YtedaknlacigbhaaPk18
namespace Go.Br
open Go Go.Lx Go.Proofs
open Go.Lx renaming rg_move → zA, rg_int → zB, rg_nilCheck → zC, rg_fieldAddr0 → zD, rg_fieldAddr → zE, rg_load → zF, rg_assign → zG, rg_loadAgg → zH, rg_extract → zI, rg_not → zJ, rg_pick → zK, rg_off → zL, rg_offU → zM, rg_store → zN, rg_storeAgg → zO, rg_convInt → zP, rg_done → zQ, ex_seq → zR, rg_start_s → zS, rg_start_d → zT, ex_cond_true → zU, ex_cond_false → zV, rg_alloc → zW, rg_boxAgg → zX, rg_build → zY, rg_lenSl → zZ, rg_lenMap → yA, ex_skip → yB, ex_block → yC, ex_inBlock → yD, ex_exit → yE, rg_caseG → yZ
set_option maxRecDepth 100000

theorem ex_slv {P : Program} {X : Tgt} {b : Base} {n : Nat} {E : Env} {k : List Item} {cs : List Frame} {Γ : List Ch} {el m : Nat} {s : Value} {xs : List Value} {len : Nat}
    (e0 : s = .slice none 0 0 → xs = [] → len = 0 → Ex P X b n E k cs (.pr (SlV el m s xs len) :: Γ))
    (e1 : ∀ bl cap slack, s = .slice (some ⟨bl, 0, none⟩) len cap → (len ≤ cap ∧ xs.length = len * m ∧ slack.length = (cap - len) * m) → Ex P X b n E k cs (.pt bl true (.cells ⟨xs ++ slack⟩ el (0, 0)) :: Γ)) : Ex P X b n E k cs (.pr (SlV el m s xs len) :: Γ) := fun tmps h t st => by
  rcases star_slv.1 st with ⟨h1, h2, h3, _⟩ | ⟨bl, cap, slack, a, b, c, d, st'⟩
  · exact e0 h1 h2 h3 tmps h t st
  · exact e1 bl cap slack a ⟨b, c, d⟩ tmps h t st'

theorem insNil_ok (Γ : List Ch) : CallsX Try.prog 96 #[.slice none 0 0, .int .i64 0, .int .i64 0] Γ (fun v Δ => v = .tuple #[] ∧ Δ = Γ) := by
  refine calls_of_body (args := [.slice none 0 0, .int .i64 0, .int .i64 0]) Try.func96 rfl Try.ntmps96 fun X cs ret => ?_
  repeat (first|refine zA rfl ?_|refine zB rfl rfl rfl ?_|refine zG rfl ?_|refine zQ ?_|refine zR ?_|refine zS ?_|refine yC ?_)
  refine ex_loop ?_
  repeat (first|refine zA rfl ?_|refine zB rfl rfl rfl ?_|refine zQ ?_|refine zR ?_|refine zS ?_|refine zV rfl ?_|refine yE rfl ?_)
  exact ex_endc ret Try.func96 rfl ⟨rfl, rfl⟩

theorem pdqNil_ok (lim : Int) (Γ : List Ch) : CallsX Try.prog 89 #[.slice none 0 0, .int .i64 0, .int .i64 0, .int .i64 lim] Γ (fun v Δ => v = .tuple #[] ∧ Δ = Γ) := by
  refine calls_of_body (args := [.slice none 0 0, .int .i64 0, .int .i64 0, .int .i64 lim]) Try.func89 rfl Try.ntmps89 fun X cs ret => ?_
  repeat (first|refine zG rfl ?_|refine zQ ?_|refine zR ?_|refine zS ?_|refine yC ?_)
  refine ex_loop ?_
  repeat (first|refine zA rfl ?_|refine zB rfl rfl rfl ?_|refine zG rfl ?_|refine zQ ?_|refine zR ?_|refine zS ?_|refine zU rfl ?_|refine yC ?_)
  refine rg_call rfl (insNil_ok _) ?_
  rintro _ _ ⟨rfl, rfl⟩
  refine ⟨.inl rfl, ?_⟩
  repeat refine zQ ?_
  exact ex_retc ret Try.func89 rfl ⟨rfl, rfl⟩

theorem sortNil_ok (Γ : List Ch) : CallsX Try.prog 76 #[.slice none 0 0] Γ (fun v Δ => v = .tuple #[] ∧ Δ = Γ) := by
  refine calls_of_body (args := [.slice none 0 0]) Try.func76 rfl Try.ntmps76 fun X cs ret => ?_
  repeat (first|refine zA rfl ?_|refine zG rfl ?_|refine zP rfl ?_|refine zQ ?_|refine zR ?_|refine zS ?_|refine zZ rfl ?_)
  rw [show IntKind.wrap .u64 ((0 : Nat) : Int) = ((0 : Nat) : Int) by rw [wU]; rfl]
  refine rg_call rfl (len_ok 0 _ (by omega)) ?_
  rintro _ _ ⟨rfl, rfl⟩
  refine ⟨.inl rfl, ?_⟩
  refine rg_call rfl (pdqNil_ok _ _) ?_
  rintro _ _ ⟨rfl, rfl⟩
  refine ⟨.inl rfl, ?_⟩
  repeat refine zQ ?_
  exact ex_endc ret Try.func76 rfl ⟨rfl, rfl⟩

theorem collect_ok (m mb ck : Nat) (p p1 : Bool) (l : List Pk) (Γ : List Ch) (ok : OkL l ck) :
    CallsX Try.prog 75 #[.func (.func 77) #[] ⟨[ptrV mb]⟩] (.pt mb p1 (.cells ⟨[.map (some m)]⟩ 143 (0, 0)) :: .pt m p (.map ⟨pEs l⟩ ck) :: Γ)
      (fun v Δ => ∃ qs : List Pk, qs.Perm l ∧ Δ = .pr (SlV 36 1 v (qs.map qV) qs.length) :: .pt m p (.map ⟨pEs l⟩ ck) :: Γ) := by
  refine calls_of_body (args := [.func (.func 77) #[] ⟨[ptrV mb]⟩]) Try.func75 rfl Try.ntmps75 fun X cs ret => ?_
  repeat (first|refine zA rfl ?_|refine zG rfl ?_|refine zQ ?_|refine zR ?_|refine zS ?_)
  refine rg_call rfl (appendSeq_ok m mb ck p p1 l _ ok) ?_
  rintro v _ ⟨qs, hq, rfl⟩
  refine ⟨.inl rfl, ?_⟩
  repeat (first|refine zG rfl ?_|refine zQ ?_)
  exact ex_retc (vs := [v]) ret Try.func75 rfl ⟨qs, hq, rfl⟩

theorem sorted_ok (m mb ck : Nat) (p p1 : Bool) (l : List Pk) (Γ : List Ch) (ok : OkL l ck) :
    CallsX Try.prog 60 #[.func (.func 77) #[] ⟨[ptrV mb]⟩] (.pt mb p1 (.cells ⟨[.map (some m)]⟩ 143 (0, 0)) :: .pt m p (.map ⟨pEs l⟩ ck) :: Γ)
      (fun v Δ => ∃ a cap, v = .slice a l.length cap ∧ Δ = .pr (SlV 36 1 (.slice a l.length cap) (l.map qV) l.length) :: .pt m p (.map ⟨pEs l⟩ ck) :: Γ) := by
  refine calls_of_body (args := [.func (.func 77) #[] ⟨[ptrV mb]⟩]) Try.func60 rfl Try.ntmps60 fun X cs ret => ?_
  repeat (first|refine zA rfl ?_|refine zG rfl ?_|refine zQ ?_|refine zR ?_|refine zS ?_)
  refine rg_call rfl (collect_ok m mb ck p p1 l _ ok) ?_
  rintro v _ ⟨qs, hq, rfl⟩
  refine ⟨.inl rfl, ?_⟩
  have hql := hq.length_eq
  repeat (first|refine zG rfl ?_|refine zQ ?_|refine zR ?_)
  refine ex_slv (fun h1 h2 h3 => ?_) (fun bl cap slack h1 hz => ?_)
  · subst h1
    have hq0 : qs = [] := by simpa using h2
    subst hq0
    have hl : l = [] := List.length_eq_zero_iff.1 (by rw [← hql]; rfl)
    subst hl
    repeat (first|refine zA rfl ?_|refine zS ?_)
    refine rg_call rfl (sortNil_ok _) ?_
    rintro _ _ ⟨rfl, rfl⟩
    refine ⟨.inl rfl, ?_⟩
    repeat (first|refine zA rfl ?_|refine zG rfl ?_|refine zQ ?_|refine zR ?_|refine zS ?_)
    exact ex_retc ret Try.func60 rfl ⟨none, 0, rfl, rfl⟩
  · subst h1
    obtain ⟨d, hd⟩ : ∃ d : Array Int, d = (qs.map (·.seq)).toArray := ⟨_, rfl⟩
    have hdl : d.toList = qs.map (·.seq) := by rw [hd]
    have hcells : qs.map qV ++ slack = dC d slack := by
      unfold dC; rw [hdl, List.map_map]; rfl
    rw [hcells]
    have hsz : d.size = qs.length := by rw [hd]; simp
    have hlen := ok.len
    repeat (first|refine zA rfl ?_|refine zS ?_)
    refine rg_call rfl (sort_ok bl qs.length cap d slack _ hsz (by omega)) ?_
    rintro _ _ ⟨e, rfl, e1, e2, e3, rfl⟩
    refine ⟨.inl rfl, ?_⟩
    have hes : e.toList = l.map (·.seq) := by
      refine List.Perm.eq_of_pairwise (le := fun x y : Int => x ≤ y) (fun a b _ _ h1 h2 => by omega) e3 ?_ ?_
      · rw [List.pairwise_map]; exact ok.sorted.imp fun h => by omega
      · rw [hdl] at e2; exact e2.trans (hq.map _)
    have hce : dC e slack = l.map qV ++ slack := by
      unfold dC; rw [hes, List.map_map]; rfl
    dsimp only [dCh]
    rw [hce]
    repeat (first|refine zQ ?_|refine zR ?_)
    rw [hql] at hz ⊢
    refine Ex.ent (EntR.e (slv_fold (m := 1) (xs := l.map qV) (len := l.length) (bl, cap, slack) ⟨hz.1, by simp, hz.2.2⟩)) ?_
    repeat (first|refine zA rfl ?_|refine zG rfl ?_|refine zQ ?_|refine zS ?_)
    exact ex_retc ret Try.func60 rfl ⟨_, _, rfl, rfl⟩

/-- What Look tells. -/
abbrev lookL (s : Cn) (kn : Hd) (v : Value) : List Value := [.int .u64 s.hd.height, .int .u64 s.hd.time, .int .u64 kn.height, .bool s.hd.opn, .int .u64 s.nsend, .int .u64 s.hd.nrecv, v, .int .u64 s.locked, .int .u64 s.about]

theorem okL_of {B : Nat} {s : Cn} (ok : Ok B s) (hB : B < 100000000) : OkL s.hd.packets (s.nsend - 1).toNat where
  sorted := ok.hd.sorted
  seqs := fun p hp => by
    have h1 := ok.below p hp
    have h2 := ok.hd.seqs p hp
    omega
  len := by have := ok.count; omega

set_option maxHeartbeats 2000000 in
theorem look_ok (c : Nat) (s : Cn) (kn : Hd) (B : Nat) (Γ : List Ch) (ok : Ok B s) (hB : B < 100000000) :
    CallsX Try.prog 43 #[.pointer (some ⟨c, 0, none⟩)] (.pr (ChainAt c s kn) :: Γ)
      (fun v Δ => ∃ b a cap, v = .agg ⟨lookL s kn (.slice a s.hd.packets.length cap)⟩ ∧ Δ = .pt b true (.cells ⟨lookL s kn (.slice a s.hd.packets.length cap)⟩ 55 (0, 0)) :: .pr (SlV 36 1 (.slice a s.hd.packets.length cap) (s.hd.packets.map qV) s.hd.packets.length) :: .pr (ChainAt c s kn) :: Γ) := by
  refine CallsX.open_ chainH_open fun (y, z) oky => ?_
  dsimp only at oky ⊢
  refine calls_of_body (args := [.pointer (some ⟨c, 0, none⟩)]) Try.func43 rfl Try.ntmps43 fun X cs ret => ?_
  repeat refine zR ?_
  refine rg_start_s ?_
  repeat (first|refine zQ ?_|refine zR ?_|refine zW fun bl=>?_)
  (refine rg_start_p [0, 1, 2, 3, 4, 5, 6, 7, 8, 9, 10, 11, 12, 13, 14, 15, 16, 17, 18, 19, 20, 21, 22, 23, 24, 25, 26, 27, 28, 29, 30, 31, 32, 33, 34, 35, 38, 39, 40, 41, 42, 43, 44, 45, 36, 37, 46, 47] (by decide +kernel) (by decide +kernel) (by simp only [permL, List.getElem?_cons_succ, List.getElem?_cons_zero]; rfl) ?_)
  repeat (first|refine zA rfl ?_|refine zC rfl ?_|refine zD rfl ?_|refine zE rfl ?_|refine zF rfl ?_)
  refine rg_call rfl (keys_ok y.pd _) ?_
  rintro _ _ ⟨mb, rfl, rfl⟩
  refine ⟨.inr (by (repeat' first | exact trivial | refine ⟨.inr ⟨_, _, _, _, Find.mem, rfl⟩, ?_⟩ | refine ⟨.inr ⟨_, _, _, _, Find.mem, inferInstance⟩, ?_⟩ | refine ⟨.inr ⟨_, Find.mem⟩, ?_⟩ | refine ⟨.inl (by decide +kernel), ?_⟩)), ?_⟩
  (refine Rg.front 11 ?_; refine Rg.front 11 ?_; refine Rg.front 11 ?_; refine Rg.front 11 ?_; refine Rg.front 11 ?_; refine Rg.front 11 ?_; refine Rg.front 11 ?_; refine Rg.front 10 ?_; refine Rg.front 10 ?_; refine Rg.front 10 ?_; refine Rg.front 11 ?_; refine Rg.front 11 ?_)
  refine rg_call rfl (sorted_ok y.pd mb _ _ _ s.hd.packets _ (okL_of ok hB)) ?_
  rintro _ _ ⟨a, cap, rfl, rfl⟩
  refine ⟨.inr (by (repeat' first | exact trivial | refine ⟨.inr ⟨_, _, _, _, Find.mem, rfl⟩, ?_⟩ | refine ⟨.inr ⟨_, _, _, _, Find.mem, inferInstance⟩, ?_⟩ | refine ⟨.inr ⟨_, Find.mem⟩, ?_⟩ | refine ⟨.inl (by decide +kernel), ?_⟩)), ?_⟩
  repeat (first|refine zO rfl rfl ?_|refine zQ ?_|refine zY rfl ?_)
  (refine Ex.front 11 ?_; refine Ex.front 11 ?_; refine Ex.front 11 ?_; refine Ex.front 11 ?_; refine Ex.front 11 ?_; refine Ex.front 11 ?_; refine Ex.front 11 ?_; refine Ex.front 8 ?_; refine Ex.front 11 ?_; refine Ex.front 11 ?_; refine Ex.front 10 ?_; refine Ex.front 11 ?_)
  refine ex_retC ret Try.func43 (Ent.cons (Ent.cons (EntR.e (chainH_fold y z (by exact oky))))) (.agg rfl (List.mem_cons_self ..) inferInstance .nil) ⟨_, a, cap, rfl, rfl⟩

end Go.Br

namespace Go.Br
open Go Go.Lx Go.Proofs
open Go.Lx renaming rg_move → zA, rg_int → zB, rg_nilCheck → zC, rg_fieldAddr0 → zD, rg_fieldAddr → zE, rg_load → zF, rg_assign → zG, rg_loadAgg → zH, rg_extract → zI, rg_not → zJ, rg_pick → zK, rg_off → zL, rg_offU → zM, rg_store → zN, rg_storeAgg → zO, rg_convInt → zP, rg_done → zQ, ex_seq → zR, rg_start_s → zS, rg_start_d → zT, ex_cond_true → zU, ex_cond_false → zV, rg_alloc → zW, rg_boxAgg → zX, rg_build → zY, rg_lenSl → zZ, rg_lenMap → yA, ex_skip → yB, ex_block → yC, ex_inBlock → yD, ex_exit → yE, rg_caseG → yZ
set_option maxRecDepth 100000

abbrev brC (b : Nat) (p : Bool) (c0 c1 : Nat) (tk : Int) : Ch := .pt b p (.cells ⟨[ptrV c0, ptrV c1, .int .i64 tk]⟩ 106 (0, 0))

theorem add64_ok (b c0 c1 : Nat) (tk : Int) (Γ : List Ch) :
    CallsX Try.prog 59 #[.pointer (some ⟨b, 2, none⟩), .int .i64 1] (brC b true c0 c1 tk :: Γ)
      (fun v Δ => ∃ w, v = .int .i64 w ∧ Δ = brC b true c0 c1 (IntKind.wrap .i64 (tk + 1)) :: Γ) := by
  refine calls_of_body (args := [.pointer (some ⟨b, 2, none⟩), .int .i64 1]) Try.func59 rfl Try.ntmps59 fun X cs ret => ?_
  repeat (first|refine zA rfl ?_|refine zC rfl ?_|refine zD rfl ?_|refine zG rfl ?_|refine zQ ?_|refine zR ?_|refine zS ?_)
  refine rg_ext rfl (φ := fun v Δ => v = .int .i64 (IntKind.wrap .i64 (tk + 1)) ∧ Δ = brC b true c0 c1 (IntKind.wrap .i64 (tk + 1)) :: Γ) ?_ ?_
  · intro h st
    have hb := Star.mem (List.mem_cons_self ..) st
    refine ⟨true, _, _, _, _, hb, rfl, rfl, ?_⟩
    refine ⟨rfl, _, _, _, _, hb, rfl, rfl, rfl, ?_⟩
    exact ⟨_, ⟨rfl, rfl⟩, st.put⟩
  · rintro _ _ ⟨rfl, rfl⟩
    refine ⟨.inl rfl, ?_⟩
    repeat (first|refine zG rfl ?_|refine zQ ?_)
    exact ex_retc ret Try.func59 rfl ⟨_, rfl, rfl⟩

theorem load64_ok (b c0 c1 : Nat) (p : Bool) (tk : Int) (Γ : List Ch) :
    CallsX Try.prog 50 #[.pointer (some ⟨b, 2, none⟩)] (brC b p c0 c1 tk :: Γ)
      (fun v Δ => v = .int .i64 tk ∧ Δ = brC b p c0 c1 tk :: Γ) := by
  refine calls_of_body (args := [.pointer (some ⟨b, 2, none⟩)]) Try.func50 rfl Try.ntmps50 fun X cs ret => ?_
  repeat (first|refine zA rfl ?_|refine zC rfl ?_|refine zD rfl ?_|refine zG rfl ?_|refine zQ ?_|refine zR ?_|refine zS ?_)
  refine rg_ext rfl (φ := fun v Δ => v = .int .i64 tk ∧ Δ = brC b p c0 c1 tk :: Γ) ?_ ?_
  · intro h st
    have hb := Star.mem (List.mem_cons_self ..) st
    refine ⟨p, _, _, _, _, hb, rfl, rfl, ?_⟩
    exact ⟨_, ⟨rfl, rfl⟩, st⟩
  · rintro _ _ ⟨rfl, rfl⟩
    refine ⟨.inl rfl, ?_⟩
    repeat (first|refine zG rfl ?_|refine zQ ?_)
    exact ex_retc ret Try.func50 rfl ⟨rfl, rfl⟩

/-- 'do': a step of a chain; it is counted. -/
theorem bdo_ok (b c0 c1 c hb : Nat) (tk : Int) (hp : Bool) (s : Cn) (kn : Hd) (x : Stp) (ps : List Nat) (xs : List Hd) (B : Nat) (Γ : List Ch) (ok : Ok B s) (okk : OkHd B kn) (hB : B < 100000000) (hx : 0 ≤ x.n ∧ x.n < 18446744073709551616) (hkn : kn.height = s.known) (hl : ps.length = xs.length) (hxl : xs.length < 1000000000) :
    CallsX Try.prog 42 #[ptrV b, ptrV c, stV x, .slice (some ⟨hb, 0, none⟩) xs.length xs.length] (brC b true c0 c1 tk :: .pr (ChainAt c s kn) :: .pt hb hp (.cells ⟨ps.map ptrV⟩ 111 (0, 0)) :: .pr (HeadsAt ps xs) :: Γ)
      (fun v Δ => v = .tuple #[.int .u64 (step s x kn xs.length).2.1, .int .i64 (step s x kn xs.length).2.2] ∧
        Δ = brC b true c0 c1 (if (step s x kn xs.length).2.2 = 0 then IntKind.wrap .i64 (tk + 1) else tk) :: .pr (ChainAt c (step s x kn xs.length).1 (stepKn s x kn xs)) :: .pt hb hp (.cells ⟨ps.map ptrV⟩ 111 (0, 0)) :: .pr (HeadsAt ps xs) :: Γ) := by
  refine calls_of_body (args := [ptrV b, ptrV c, stV x, .slice (some ⟨hb, 0, none⟩) xs.length xs.length]) Try.func42 rfl Try.ntmps42 fun X cs ret => ?_
  refine ex_seq (rg_start_s (rg_boxAgg rfl fun b1 => ?_))
  repeat (first|refine zA rfl ?_|refine zG rfl ?_|refine zH rfl ?_|refine zQ ?_|refine zR ?_|refine zS ?_)
  (refine Rg.front 1 ?_; refine Rg.front 1 ?_; refine Rg.front 4 ?_; refine Rg.front 4 ?_; refine Rg.front 4 ?_)
  refine rg_call rfl (do_ok c hb hp s kn x ps xs B _ ok okk hB hx hkn hl hxl) ?_
  rintro _ _ ⟨rfl, rfl⟩
  refine ⟨.inl rfl, ?_⟩
  repeat (first|refine zA rfl ?_|refine zB rfl rfl rfl ?_|refine zG rfl ?_|refine zI rfl rfl ?_|refine zQ ?_|refine zR ?_|refine zS ?_)
  refine ex_cond_split rfl (fun h1 => ?_) (fun h1 => ?_)
  · have h1 := of_decide_eq_true h1
    rw [if_pos h1] at ret
    repeat (first|refine zA rfl ?_|refine zC rfl ?_|refine zE rfl ?_|refine zS ?_)
    (refine Rg.front 3 ?_; refine Rg.front 3 ?_; refine Rg.front 3 ?_; refine Rg.front 3 ?_; refine Rg.front 4 ?_)
    refine rg_call rfl (add64_ok b c0 c1 tk _) ?_
    rintro _ _ ⟨w, rfl, rfl⟩
    refine ⟨.inl rfl, ?_⟩
    repeat (first|refine zA rfl ?_|refine zG rfl ?_|refine zQ ?_|refine zR ?_|refine zS ?_)
    (refine Ex.front 3 ?_; refine Ex.front 3 ?_; refine Ex.front 3 ?_; refine Ex.front 3 ?_; refine Ex.front 4 ?_)
    exact ex_rete ret Try.func42 rfl (Ent.drop (Ent.refl _)) ⟨rfl, rfl⟩
  · have h1 := of_decide_eq_false h1
    rw [if_neg h1] at ret
    repeat (first|refine zA rfl ?_|refine zG rfl ?_|refine zQ ?_|refine zR ?_|refine zS ?_|refine yB ?_)
    (refine Ex.front 2 ?_; refine Ex.front 2 ?_; refine Ex.front 2 ?_; refine Ex.front 4 ?_; refine Ex.front 4 ?_)
    exact ex_rete ret Try.func42 rfl (Ent.drop (Ent.refl _)) ⟨rfl, rfl⟩

end Go.Br

namespace Go.Br
open Go Go.Lx Go.Proofs
open Go.Lx renaming rg_move → zA, rg_int → zB, rg_nilCheck → zC, rg_fieldAddr0 → zD, rg_fieldAddr → zE, rg_load → zF, rg_assign → zG, rg_loadAgg → zH, rg_extract → zI, rg_not → zJ, rg_pick → zK, rg_off → zL, rg_offU → zM, rg_store → zN, rg_storeAgg → zO, rg_convInt → zP, rg_done → zQ, ex_seq → zR, rg_start_s → zS, rg_start_d → zT, ex_cond_true → zU, ex_cond_false → zV, rg_alloc → zW, rg_boxAgg → zX, rg_build → zY, rg_lenSl → zZ, rg_lenMap → yA, ex_skip → yB, ex_block → yC, ex_inBlock → yD, ex_exit → yE, rg_caseG → yZ
set_option maxRecDepth 100000

abbrev brL (b c0 c1 : Nat) (tk : Int) (s0 s1 : Cn) (k0 k1 : Hd) (Γ : List Ch) : List Ch := brC b true c0 c1 tk :: .pr (ChainAt c0 s0 k0) :: .pr (ChainAt c1 s1 k1) :: Γ

theorem ofX_ok (b : Nat) (c : Int) (Γ : List Ch) (h0 : c ≠ 0) (h1 : c ≠ 1) :
    CallsX Try.prog 41 #[ptrV b, .int .i64 c] Γ (fun v Δ => v = .tuple #[.pointer none, .slice none 0 0] ∧ Δ = Γ) := by
  refine calls_of_body (args := [ptrV b, .int .i64 c]) Try.func41 rfl Try.ntmps41 fun X cs ret => ?_
  repeat (first|refine zA rfl ?_|refine zB rfl rfl rfl ?_|refine zG rfl ?_|refine zQ ?_|refine zR ?_|refine zS ?_)
  refine rg_caseG rfl rfl (fun _ => ?_) (fun h => absurd h (by simp [h0]))
  repeat (first|refine zA rfl ?_|refine zB rfl rfl rfl ?_|refine zK rfl rfl ?_|refine zQ ?_)
  refine ex_cond_split rfl (fun _ => ?_) (fun h => absurd h (by simp [h1]))
  repeat (first|refine zG rfl ?_|refine zQ ?_|refine zR ?_|refine zS ?_)
  exact ex_retc ret Try.func41 rfl ⟨rfl, rfl⟩

set_option maxHeartbeats 1000000 in
theorem of0_ok (b c0 c1 : Nat) (tk : Int) (s0 s1 : Cn) (k0 k1 : Hd) (Γ : List Ch) (hB : s1.heads.length < 1000000000) :
    CallsX Try.prog 41 #[ptrV b, .int .i64 0] (brL b c0 c1 tk s0 s1 k0 k1 Γ)
      (fun v Δ => ∃ hb ps, ps.length = s1.heads.length ∧ v = .tuple #[ptrV c0, .slice (some ⟨hb, 0, none⟩) s1.heads.length s1.heads.length] ∧ Δ = .pt hb true (.cells ⟨ps.map ptrV⟩ 111 (0, 0)) :: .pr (HeadsAt ps s1.heads) :: brL b c0 c1 tk s0 s1 k0 k1 Γ) := by
  refine calls_of_body (args := [ptrV b, .int .i64 0]) Try.func41 rfl Try.ntmps41 fun X cs ret => ?_
  repeat (first|refine zA rfl ?_|refine zB rfl rfl rfl ?_|refine zC rfl ?_|refine zD rfl ?_|refine zG rfl ?_|refine zK rfl rfl ?_|refine zL rfl rfl rfl rfl (by decide) trivial rfl ?_|refine zQ ?_|refine zR ?_|refine zS ?_|refine zT (by decide+kernel) (by decide+kernel) ?_|refine zV rfl ?_|refine yB ?_)
  refine rg_indexArr rfl rfl (by decide) ?_
  repeat (first|refine zA rfl ?_|refine zB rfl rfl rfl ?_|refine zC rfl ?_|refine zD rfl ?_|refine zF rfl ?_)
  refine rg_indexArr rfl rfl (by decide) ?_
  repeat refine zF rfl ?_
  (refine Rg.front 2 ?_)
  refine rg_call rfl (heads_ok c1 s1 k1 _ hB) ?_
  rintro _ _ ⟨hb, ps, hlen, rfl, rfl⟩
  refine ⟨.inr (by (repeat' first | exact trivial | refine ⟨.inr ⟨_, _, _, _, Find.mem, rfl⟩, ?_⟩ | refine ⟨.inr ⟨_, _, _, _, Find.mem, inferInstance⟩, ?_⟩ | refine ⟨.inr ⟨_, Find.mem⟩, ?_⟩ | refine ⟨.inl (by decide +kernel), ?_⟩)), ?_⟩
  repeat (first|refine zG rfl ?_|refine zQ ?_)
  (refine Ex.front 2 ?_; refine Ex.front 4 ?_; refine Ex.front 4 ?_; refine Ex.front 4 ?_; refine Ex.front 4 ?_)
  exact ex_retc ret Try.func41 rfl ⟨hb, ps, hlen, rfl, rfl⟩

set_option maxHeartbeats 1000000 in
theorem of1_ok (b c0 c1 : Nat) (tk : Int) (s0 s1 : Cn) (k0 k1 : Hd) (Γ : List Ch) (hB : s0.heads.length < 1000000000) :
    CallsX Try.prog 41 #[ptrV b, .int .i64 1] (brL b c0 c1 tk s0 s1 k0 k1 Γ)
      (fun v Δ => ∃ hb ps, ps.length = s0.heads.length ∧ v = .tuple #[ptrV c1, .slice (some ⟨hb, 0, none⟩) s0.heads.length s0.heads.length] ∧ Δ = .pt hb true (.cells ⟨ps.map ptrV⟩ 111 (0, 0)) :: .pr (HeadsAt ps s0.heads) :: brL b c0 c1 tk s0 s1 k0 k1 Γ) := by
  refine calls_of_body (args := [ptrV b, .int .i64 1]) Try.func41 rfl Try.ntmps41 fun X cs ret => ?_
  repeat (first|refine zA rfl ?_|refine zB rfl rfl rfl ?_|refine zC rfl ?_|refine zD rfl ?_|refine zG rfl ?_|refine zK rfl rfl ?_|refine zQ ?_|refine zR ?_|refine zS ?_|refine zT (by decide+kernel) (by decide+kernel) ?_|refine zV rfl ?_|refine yB ?_)
  refine rg_indexArr rfl rfl (by decide) ?_
  repeat (first|refine zA rfl ?_|refine zB rfl rfl rfl ?_|refine zC rfl ?_|refine zD rfl ?_|refine zF rfl ?_)
  refine rg_indexArr rfl rfl (by decide) ?_
  repeat refine zF rfl ?_
  (refine Rg.front 1 ?_)
  refine rg_call rfl (heads_ok c0 s0 k0 _ hB) ?_
  rintro _ _ ⟨hb, ps, hlen, rfl, rfl⟩
  refine ⟨.inr (by (repeat' first | exact trivial | refine ⟨.inr ⟨_, _, _, _, Find.mem, rfl⟩, ?_⟩ | refine ⟨.inr ⟨_, _, _, _, Find.mem, inferInstance⟩, ?_⟩ | refine ⟨.inr ⟨_, Find.mem⟩, ?_⟩ | refine ⟨.inl (by decide +kernel), ?_⟩)), ?_⟩
  repeat (first|refine zG rfl ?_|refine zQ ?_)
  (refine Ex.front 4 ?_; refine Ex.front 3 ?_; refine Ex.front 4 ?_; refine Ex.front 4 ?_; refine Ex.front 4 ?_)
  exact ex_retc ret Try.func41 rfl ⟨hb, ps, hlen, rfl, rfl⟩

set_option maxHeartbeats 1000000 in
theorem Do0_ok (b c0 c1 : Nat) (tk : Int) (s0 s1 : Cn) (k0 k1 : Hd) (x : Stp) (B : Nat) (Γ : List Ch) (ok : Ok B s0) (oko : Ok B s1) (okk : OkHd B k0) (hB : B < 100000000) (hx : 0 ≤ x.n ∧ x.n < 18446744073709551616) (hkn : k0.height = s0.known) :
    CallsX Try.prog 22 #[ptrV b, .int .i64 0, stV x] (brL b c0 c1 tk s0 s1 k0 k1 Γ)
      (fun v Δ => v = .tuple #[.int .u64 (step s0 x k0 s1.heads.length).2.1, .int .i64 (step s0 x k0 s1.heads.length).2.2] ∧ Δ = brL b c0 c1 (if (step s0 x k0 s1.heads.length).2.2 = 0 then IntKind.wrap .i64 (tk + 1) else tk) (step s0 x k0 s1.heads.length).1 s1 (stepKn s0 x k0 s1.heads) k1 Γ) := by
  have hh := oko.len
  have hh2 := oko.hd.height
  refine CallsX.ent (Γ' := brL b c0 c1 tk s0 s1 k0 k1 Γ) (Ent.refl _) ?_
  refine calls_of_body (args := [ptrV b, .int .i64 0, stV x]) Try.func22 rfl Try.ntmps22 fun X cs ret => ?_
  refine ex_seq (rg_start_s (rg_boxAgg rfl fun b1 => ?_))
  repeat (first|refine zA rfl ?_|refine zG rfl ?_|refine zQ ?_|refine zR ?_|refine zS ?_)
  (refine Rg.front 0 ?_; refine Rg.front 3 ?_; refine Rg.front 3 ?_; refine Rg.front 3 ?_)
  refine rg_call rfl (of0_ok b c0 c1 tk s0 s1 k0 k1 _ (by omega)) ?_
  rintro _ _ ⟨hb, ps, hlen, rfl, rfl⟩
  refine ⟨.inl rfl, ?_⟩
  repeat (first|refine zA rfl ?_|refine zG rfl ?_|refine zI rfl rfl ?_|refine zQ ?_|refine zR ?_|refine zS ?_)
  refine rg_eqPtrNil rfl rfl ?_
  repeat (first|refine zA rfl ?_|refine zH rfl ?_|refine zQ ?_|refine zR ?_|refine zS ?_|refine zV rfl ?_|refine yB ?_)
  (refine Rg.front 5 ?_; refine Rg.front 5 ?_; refine Rg.front 3 ?_; refine Rg.front 3 ?_; refine Rg.front 5 ?_; refine Rg.front 5 ?_)
  refine rg_call rfl (bdo_ok b c0 c1 c0 hb tk true s0 k0 x ps s1.heads B _ ok okk hB hx hkn hlen (by omega)) ?_
  rintro _ _ ⟨rfl, rfl⟩
  refine ⟨.inl rfl, ?_⟩
  repeat (first|refine zG rfl ?_|refine zI rfl rfl ?_|refine zQ ?_)
  (refine Ex.front 4 ?_; refine Ex.front 2 ?_; refine Ex.front 2 ?_; refine Ex.front 5 ?_; refine Ex.front 5 ?_; refine Ex.front 5 ?_)
  exact ex_rete ret Try.func22 rfl (Ent.drop (Ent.drop (Ent.drop (Ent.refl _)))) ⟨rfl, rfl⟩

set_option maxHeartbeats 1000000 in
theorem Do1_ok (b c0 c1 : Nat) (tk : Int) (s0 s1 : Cn) (k0 k1 : Hd) (x : Stp) (B : Nat) (Γ : List Ch) (ok : Ok B s1) (oko : Ok B s0) (okk : OkHd B k1) (hB : B < 100000000) (hx : 0 ≤ x.n ∧ x.n < 18446744073709551616) (hkn : k1.height = s1.known) :
    CallsX Try.prog 22 #[ptrV b, .int .i64 1, stV x] (brL b c0 c1 tk s0 s1 k0 k1 Γ)
      (fun v Δ => v = .tuple #[.int .u64 (step s1 x k1 s0.heads.length).2.1, .int .i64 (step s1 x k1 s0.heads.length).2.2] ∧ Δ = brL b c0 c1 (if (step s1 x k1 s0.heads.length).2.2 = 0 then IntKind.wrap .i64 (tk + 1) else tk) s0 (step s1 x k1 s0.heads.length).1 k0 (stepKn s1 x k1 s0.heads) Γ) := by
  have hh := oko.len
  have hh2 := oko.hd.height
  refine CallsX.ent (Γ' := brL b c0 c1 tk s0 s1 k0 k1 Γ) (Ent.refl _) ?_
  refine calls_of_body (args := [ptrV b, .int .i64 1, stV x]) Try.func22 rfl Try.ntmps22 fun X cs ret => ?_
  refine ex_seq (rg_start_s (rg_boxAgg rfl fun b1 => ?_))
  repeat (first|refine zA rfl ?_|refine zG rfl ?_|refine zQ ?_|refine zR ?_|refine zS ?_)
  (refine Rg.front 0 ?_; refine Rg.front 3 ?_; refine Rg.front 3 ?_; refine Rg.front 3 ?_)
  refine rg_call rfl (of1_ok b c0 c1 tk s0 s1 k0 k1 _ (by omega)) ?_
  rintro _ _ ⟨hb, ps, hlen, rfl, rfl⟩
  refine ⟨.inl rfl, ?_⟩
  repeat (first|refine zA rfl ?_|refine zG rfl ?_|refine zI rfl rfl ?_|refine zQ ?_|refine zR ?_|refine zS ?_)
  refine rg_eqPtrNil rfl rfl ?_
  repeat (first|refine zA rfl ?_|refine zH rfl ?_|refine zQ ?_|refine zR ?_|refine zS ?_|refine zV rfl ?_|refine yB ?_)
  (refine Rg.front 5 ?_; refine Rg.front 4 ?_; refine Rg.front 3 ?_; refine Rg.front 3 ?_; refine Rg.front 5 ?_; refine Rg.front 5 ?_)
  refine rg_call rfl (bdo_ok b c0 c1 c1 hb tk true s1 k1 x ps s0.heads B _ ok okk hB hx hkn hlen (by omega)) ?_
  rintro _ _ ⟨rfl, rfl⟩
  refine ⟨.inl rfl, ?_⟩
  repeat (first|refine zG rfl ?_|refine zI rfl rfl ?_|refine zQ ?_)
  (refine Ex.front 1 ?_; refine Ex.front 4 ?_; refine Ex.front 2 ?_; refine Ex.front 5 ?_; refine Ex.front 5 ?_; refine Ex.front 5 ?_)
  exact ex_rete ret Try.func22 rfl (Ent.drop (Ent.drop (Ent.drop (Ent.refl _)))) ⟨rfl, rfl⟩

set_option maxHeartbeats 1000000 in
theorem Balance0_ok (b c0 c1 : Nat) (tk : Int) (s0 s1 : Cn) (k0 k1 : Hd) (u co : Int) (Γ : List Ch) (hB : s1.heads.length < 1000000000) :
    CallsX Try.prog 30 #[ptrV b, .int .i64 0, .int .i64 u, .int .i64 co] (brL b c0 c1 tk s0 s1 k0 k1 Γ)
      (fun v Δ => v = .int .u64 (s0.has u co) ∧ Δ = brL b c0 c1 tk s0 s1 k0 k1 Γ) := by
  refine calls_of_body (args := [ptrV b, .int .i64 0, .int .i64 u, .int .i64 co]) Try.func30 rfl Try.ntmps30 fun X cs ret => ?_
  repeat (first|refine zA rfl ?_|refine zG rfl ?_|refine zQ ?_|refine zR ?_|refine zS ?_)
  refine rg_call rfl (of0_ok b c0 c1 tk s0 s1 k0 k1 _ hB) ?_
  rintro _ _ ⟨hb, ps, hlen, rfl, rfl⟩
  refine ⟨.inl rfl, ?_⟩
  repeat (first|refine zA rfl ?_|refine zG rfl ?_|refine zI rfl rfl ?_|refine zQ ?_|refine zR ?_|refine zS ?_)
  refine rg_eqPtrNil rfl rfl ?_
  repeat (first|refine zA rfl ?_|refine zQ ?_|refine zR ?_|refine zS ?_|refine zV rfl ?_|refine yB ?_)
  (refine Rg.front 4 ?_; refine Rg.front 3 ?_; refine Rg.front 3 ?_; refine Rg.front 3 ?_; refine Rg.front 4 ?_)
  refine rg_call rfl (balance_ok c0 s0 k0 u co _) ?_
  rintro _ _ ⟨rfl, rfl⟩
  refine ⟨.inl rfl, ?_⟩
  repeat (first|refine zG rfl ?_|refine zQ ?_)
  (refine Ex.front 4 ?_; refine Ex.front 1 ?_; refine Ex.front 4 ?_; refine Ex.front 4 ?_; refine Ex.front 4 ?_)
  exact ex_rete ret Try.func30 rfl (Ent.drop (Ent.drop (Ent.refl _))) ⟨rfl, rfl⟩

set_option maxHeartbeats 1000000 in
theorem Look0_ok (b c0 c1 : Nat) (tk : Int) (s0 s1 : Cn) (k0 k1 : Hd) (B : Nat) (Γ : List Ch) (ok : Ok B s0) (hBB : B < 100000000) (hB : s1.heads.length < 1000000000) :
    CallsX Try.prog 25 #[ptrV b, .int .i64 0] (brL b c0 c1 tk s0 s1 k0 k1 Γ)
      (fun v Δ => ∃ b' a cap, v = .tuple #[.agg ⟨lookL s0 k0 (.slice a s0.hd.packets.length cap)⟩, .int .i64 0] ∧ Δ = .pt b' true (.cells ⟨lookL s0 k0 (.slice a s0.hd.packets.length cap)⟩ 55 (0, 0)) :: .pr (SlV 36 1 (.slice a s0.hd.packets.length cap) (s0.hd.packets.map qV) s0.hd.packets.length) :: brL b c0 c1 tk s0 s1 k0 k1 Γ) := by
  refine calls_of_body (args := [ptrV b, .int .i64 0]) Try.func25 rfl Try.ntmps25 fun X cs ret => ?_
  repeat (first|refine zA rfl ?_|refine zG rfl ?_|refine zQ ?_|refine zR ?_|refine zS ?_|refine zW fun bl=>?_)
  (refine Rg.front 0 ?_; refine Rg.front 3 ?_; refine Rg.front 3 ?_; refine Rg.front 3 ?_)
  refine rg_call rfl (of0_ok b c0 c1 tk s0 s1 k0 k1 _ hB) ?_
  rintro _ _ ⟨hb, ps, hlen, rfl, rfl⟩
  refine ⟨.inl rfl, ?_⟩
  repeat (first|refine zA rfl ?_|refine zG rfl ?_|refine zI rfl rfl ?_|refine zQ ?_|refine zR ?_|refine zS ?_)
  refine rg_eqPtrNil rfl rfl ?_
  repeat (first|refine zA rfl ?_|refine zQ ?_|refine zR ?_|refine zS ?_|refine zV rfl ?_|refine yB ?_)
  (refine Rg.front 5 ?_; refine Rg.front 5 ?_; refine Rg.front 4 ?_; refine Rg.front 4 ?_; refine Rg.front 4 ?_; refine Rg.front 5 ?_)
  refine rg_call rfl (look_ok c0 s0 k0 B _ ok hBB) ?_
  rintro _ _ ⟨b2, a, cap, rfl, rfl⟩
  refine ⟨.inl rfl, ?_⟩
  repeat (first|refine zG rfl ?_|refine zO rfl rfl ?_|refine zQ ?_)
  (refine Ex.front 6 ?_; refine Ex.front 3 ?_; refine Ex.front 6 ?_; refine Ex.front 4 ?_; refine Ex.front 7 ?_; refine Ex.front 7 ?_; refine Ex.front 7 ?_; refine Ex.front 7 ?_)
  refine ex_retC ret Try.func25 (Ent.drop (Ent.drop (Ent.drop (Ent.refl _)))) (.agg rfl (List.mem_cons_self ..) inferInstance (.tmp rfl .nil)) ⟨_, a, cap, rfl, rfl⟩

set_option maxHeartbeats 1000000 in
theorem Balance1_ok (b c0 c1 : Nat) (tk : Int) (s0 s1 : Cn) (k0 k1 : Hd) (u co : Int) (Γ : List Ch) (hB : s0.heads.length < 1000000000) :
    CallsX Try.prog 30 #[ptrV b, .int .i64 1, .int .i64 u, .int .i64 co] (brL b c0 c1 tk s0 s1 k0 k1 Γ)
      (fun v Δ => v = .int .u64 (s1.has u co) ∧ Δ = brL b c0 c1 tk s0 s1 k0 k1 Γ) := by
  refine calls_of_body (args := [ptrV b, .int .i64 1, .int .i64 u, .int .i64 co]) Try.func30 rfl Try.ntmps30 fun X cs ret => ?_
  repeat (first|refine zA rfl ?_|refine zG rfl ?_|refine zQ ?_|refine zR ?_|refine zS ?_)
  refine rg_call rfl (of1_ok b c0 c1 tk s0 s1 k0 k1 _ hB) ?_
  rintro _ _ ⟨hb, ps, hlen, rfl, rfl⟩
  refine ⟨.inl rfl, ?_⟩
  repeat (first|refine zA rfl ?_|refine zG rfl ?_|refine zI rfl rfl ?_|refine zQ ?_|refine zR ?_|refine zS ?_)
  refine rg_eqPtrNil rfl rfl ?_
  repeat (first|refine zA rfl ?_|refine zQ ?_|refine zR ?_|refine zS ?_|refine zV rfl ?_|refine yB ?_)
  (refine Rg.front 3 ?_; refine Rg.front 3 ?_; refine Rg.front 3 ?_; refine Rg.front 3 ?_; refine Rg.front 4 ?_)
  refine rg_call rfl (balance_ok c1 s1 k1 u co _) ?_
  rintro _ _ ⟨rfl, rfl⟩
  refine ⟨.inl rfl, ?_⟩
  repeat (first|refine zG rfl ?_|refine zQ ?_)
  (refine Ex.front 0 ?_; refine Ex.front 4 ?_; refine Ex.front 4 ?_; refine Ex.front 4 ?_; refine Ex.front 4 ?_)
  exact ex_rete ret Try.func30 rfl (Ent.drop (Ent.drop (Ent.refl _))) ⟨rfl, rfl⟩

set_option maxHeartbeats 1000000 in
theorem Look1_ok (b c0 c1 : Nat) (tk : Int) (s0 s1 : Cn) (k0 k1 : Hd) (B : Nat) (Γ : List Ch) (ok : Ok B s1) (hBB : B < 100000000) (hB : s0.heads.length < 1000000000) :
    CallsX Try.prog 25 #[ptrV b, .int .i64 1] (brL b c0 c1 tk s0 s1 k0 k1 Γ)
      (fun v Δ => ∃ b' a cap, v = .tuple #[.agg ⟨lookL s1 k1 (.slice a s1.hd.packets.length cap)⟩, .int .i64 0] ∧ Δ = .pt b' true (.cells ⟨lookL s1 k1 (.slice a s1.hd.packets.length cap)⟩ 55 (0, 0)) :: .pr (SlV 36 1 (.slice a s1.hd.packets.length cap) (s1.hd.packets.map qV) s1.hd.packets.length) :: brL b c0 c1 tk s0 s1 k0 k1 Γ) := by
  refine calls_of_body (args := [ptrV b, .int .i64 1]) Try.func25 rfl Try.ntmps25 fun X cs ret => ?_
  repeat (first|refine zA rfl ?_|refine zG rfl ?_|refine zQ ?_|refine zR ?_|refine zS ?_|refine zW fun bl=>?_)
  (refine Rg.front 0 ?_; refine Rg.front 3 ?_; refine Rg.front 3 ?_; refine Rg.front 3 ?_)
  refine rg_call rfl (of1_ok b c0 c1 tk s0 s1 k0 k1 _ hB) ?_
  rintro _ _ ⟨hb, ps, hlen, rfl, rfl⟩
  refine ⟨.inl rfl, ?_⟩
  repeat (first|refine zA rfl ?_|refine zG rfl ?_|refine zI rfl rfl ?_|refine zQ ?_|refine zR ?_|refine zS ?_)
  refine rg_eqPtrNil rfl rfl ?_
  repeat (first|refine zA rfl ?_|refine zQ ?_|refine zR ?_|refine zS ?_|refine zV rfl ?_|refine yB ?_)
  (refine Rg.front 5 ?_; refine Rg.front 4 ?_; refine Rg.front 4 ?_; refine Rg.front 4 ?_; refine Rg.front 4 ?_; refine Rg.front 5 ?_)
  refine rg_call rfl (look_ok c1 s1 k1 B _ ok hBB) ?_
  rintro _ _ ⟨b2, a, cap, rfl, rfl⟩
  refine ⟨.inl rfl, ?_⟩
  repeat (first|refine zG rfl ?_|refine zO rfl rfl ?_|refine zQ ?_)
  (refine Ex.front 2 ?_; refine Ex.front 6 ?_; refine Ex.front 6 ?_; refine Ex.front 4 ?_; refine Ex.front 7 ?_; refine Ex.front 7 ?_; refine Ex.front 7 ?_; refine Ex.front 7 ?_)
  refine ex_retC ret Try.func25 (Ent.drop (Ent.drop (Ent.drop (Ent.refl _)))) (.agg rfl (List.mem_cons_self ..) inferInstance (.tmp rfl .nil)) ⟨_, a, cap, rfl, rfl⟩

theorem BalanceX_ok (b : Nat) (c u co : Int) (Γ : List Ch) (h0 : c ≠ 0) (h1 : c ≠ 1) :
    CallsX Try.prog 30 #[ptrV b, .int .i64 c, .int .i64 u, .int .i64 co] Γ (fun v Δ => v = .int .u64 0 ∧ Δ = Γ) := by
  refine calls_of_body (args := [ptrV b, .int .i64 c, .int .i64 u, .int .i64 co]) Try.func30 rfl Try.ntmps30 fun X cs ret => ?_
  repeat (first|refine zA rfl ?_|refine zG rfl ?_|refine zQ ?_|refine zR ?_|refine zS ?_)
  refine rg_call rfl (ofX_ok b c _ h0 h1) ?_
  rintro _ _ ⟨rfl, rfl⟩
  refine ⟨.inl rfl, ?_⟩
  repeat (first|refine zA rfl ?_|refine zG rfl ?_|refine zI rfl rfl ?_|refine zQ ?_|refine zR ?_|refine zS ?_)
  refine rg_eqPtrNil rfl rfl ?_
  repeat (first|refine zG rfl ?_|refine zQ ?_|refine zR ?_|refine zS ?_|refine zU rfl ?_)
  exact ex_retc ret Try.func30 rfl ⟨rfl, rfl⟩

theorem DoX_ok (b : Nat) (c : Int) (x : Stp) (Γ : List Ch) (h0 : c ≠ 0) (h1 : c ≠ 1) :
    CallsX Try.prog 22 #[ptrV b, .int .i64 c, stV x] Γ (fun v Δ => v = .tuple #[.int .u64 0, .int .i64 1] ∧ Δ = Γ) := by
  refine calls_of_body (args := [ptrV b, .int .i64 c, stV x]) Try.func22 rfl Try.ntmps22 fun X cs ret => ?_
  refine ex_seq (rg_start_s (rg_boxAgg rfl fun b1 => ?_))
  repeat (first|refine zA rfl ?_|refine zG rfl ?_|refine zQ ?_|refine zR ?_|refine zS ?_)
  refine rg_call rfl (ofX_ok b c _ h0 h1) ?_
  rintro _ _ ⟨rfl, rfl⟩
  refine ⟨.inl rfl, ?_⟩
  repeat (first|refine zA rfl ?_|refine zG rfl ?_|refine zI rfl rfl ?_|refine zQ ?_|refine zR ?_|refine zS ?_)
  refine rg_eqPtrNil rfl rfl ?_
  repeat (first|refine zG rfl ?_|refine zQ ?_|refine zR ?_|refine zS ?_|refine zU rfl ?_)
  exact ex_rete ret Try.func22 rfl (Ent.drop (Ent.refl _)) ⟨rfl, rfl⟩

abbrev lookZ : List Value := [.int .u64 0, .int .u64 0, .int .u64 0, .bool false, .int .u64 0, .int .u64 0, .slice none 0 0, .int .u64 0, .int .u64 0]

theorem LookX_ok (b : Nat) (c : Int) (Γ : List Ch) (h0 : c ≠ 0) (h1 : c ≠ 1) :
    CallsX Try.prog 25 #[ptrV b, .int .i64 c] Γ (fun v Δ => ∃ b', v = .tuple #[.agg ⟨lookZ⟩, .int .i64 1] ∧ Δ = .pt b' true (.cells ⟨lookZ⟩ 55 (0, 0)) :: Γ) := by
  refine calls_of_body (args := [ptrV b, .int .i64 c]) Try.func25 rfl Try.ntmps25 fun X cs ret => ?_
  repeat (first|refine zA rfl ?_|refine zG rfl ?_|refine zQ ?_|refine zR ?_|refine zS ?_|refine zW fun bl=>?_)
  refine rg_call rfl (ofX_ok b c _ h0 h1) ?_
  rintro _ _ ⟨rfl, rfl⟩
  refine ⟨.inl rfl, ?_⟩
  repeat (first|refine zA rfl ?_|refine zG rfl ?_|refine zI rfl rfl ?_|refine zQ ?_|refine zR ?_|refine zS ?_)
  refine rg_eqPtrNil rfl rfl ?_
  repeat (first|refine zG rfl ?_|refine zO rfl rfl ?_|refine zQ ?_|refine zR ?_|refine zS ?_|refine zU rfl ?_|refine zY rfl ?_)
  refine ex_retC ret Try.func25 (Ent.refl _) (.agg rfl (List.mem_cons_self ..) inferInstance (.tmp rfl .nil)) ⟨_, rfl, rfl⟩

theorem Taken_ok (b c0 c1 : Nat) (tk : Int) (Γ : List Ch) (h : 0 ≤ tk ∧ tk < 1000000000) :
    CallsX Try.prog 35 #[ptrV b] (brC b true c0 c1 tk :: Γ) (fun v Δ => v = .int .i64 tk ∧ Δ = brC b true c0 c1 tk :: Γ) := by
  refine calls_of_body (args := [ptrV b]) Try.func35 rfl Try.ntmps35 fun X cs ret => ?_
  repeat (first|refine zA rfl ?_|refine zC rfl ?_|refine zE rfl ?_|refine zG rfl ?_|refine zQ ?_|refine zR ?_|refine zS ?_)
  refine rg_call rfl (load64_ok b c0 c1 true tk _) ?_
  rintro _ _ ⟨rfl, rfl⟩
  refine ⟨.inl rfl, ?_⟩
  repeat (first|refine zG rfl ?_|refine zQ ?_)
  exact ex_retc ret Try.func35 rfl ⟨rfl, rfl⟩

end Go.Br

namespace Go.Br
open Go Go.Lx Go.Proofs
open Go.Lx renaming rg_move → zA, rg_int → zB, rg_nilCheck → zC, rg_fieldAddr0 → zD, rg_fieldAddr → zE, rg_load → zF, rg_assign → zG, rg_loadAgg → zH, rg_extract → zI, rg_not → zJ, rg_pick → zK, rg_off → zL, rg_offU → zM, rg_store → zN, rg_storeAgg → zO, rg_convInt → zP, rg_done → zQ, ex_seq → zR, rg_start_s → zS, rg_start_d → zT, ex_cond_true → zU, ex_cond_false → zV, rg_alloc → zW, rg_boxAgg → zX, rg_build → zY, rg_lenSl → zZ, rg_lenMap → yA, ex_skip → yB, ex_block → yC, ex_inBlock → yD, ex_exit → yE, rg_caseG → yZ
set_option maxRecDepth 100000

/-- A header in short. -/
structure Sh where
  height : Int
  time : Int
  opn : Bool
  nrecv : Int
  np : Int
  na : Int
  deriving DecidableEq, Inhabited

abbrev shL (x : Sh) : List Value := [.int .u64 x.height, .int .u64 x.time, .bool x.opn, .int .u64 x.nrecv, .int .i64 x.np, .int .i64 x.na]
abbrev shOf (x : Hd) : Sh := ⟨x.height, x.time, x.opn, x.nrecv, x.packets.length, x.answers.length⟩
abbrev shZ : Sh := ⟨0, 0, false, 0, 0, 0⟩

def hdRes (s : Cn) (h : Int) : Sh × Int := if (s.heads.length : Int) ≤ h then (shZ, 8) else (shOf (s.heads.getD h.toNat default), 0)
def headRes (s0 s1 : Cn) (c h : Int) : Sh × Int := if c = 0 then hdRes s0 h else if c = 1 then hdRes s1 h else (shZ, 1)

set_option maxHeartbeats 1000000 in
theorem Head0_ok (b c0 c1 : Nat) (tk : Int) (s0 s1 : Cn) (k0 k1 : Hd) (h : Int) (Γ : List Ch) (hB0 : s0.heads.length < 1000000000) (hB1 : s1.heads.length < 1000000000) (hh : 0 ≤ h) :
    CallsX Try.prog 31 #[ptrV b, .int .i64 0, .int .u64 h] (brL b c0 c1 tk s0 s1 k0 k1 Γ)
      (fun v Δ => ∃ b', v = .tuple #[.agg ⟨shL (hdRes s0 h).1⟩, .int .i64 (hdRes s0 h).2] ∧ Δ = .pt b' true (.cells ⟨shL (hdRes s0 h).1⟩ 71 (0, 0)) :: brL b c0 c1 tk s0 s1 k0 k1 Γ) := by
  refine calls_of_body (args := [ptrV b, .int .i64 0, .int .u64 h]) Try.func31 rfl Try.ntmps31 fun X cs ret => ?_
  repeat (first|refine zA rfl ?_|refine zG rfl ?_|refine zQ ?_|refine zR ?_|refine zS ?_|refine zW fun bl=>?_)
  (refine Rg.front 0 ?_; refine Rg.front 3 ?_; refine Rg.front 3 ?_; refine Rg.front 3 ?_)
  refine rg_call rfl (of0_ok b c0 c1 tk s0 s1 k0 k1 _ hB1) ?_
  rintro _ _ ⟨hb, ps, hlen, rfl, rfl⟩
  refine ⟨.inl rfl, ?_⟩
  repeat (first|refine zA rfl ?_|refine zG rfl ?_|refine zI rfl rfl ?_|refine zQ ?_|refine zR ?_|refine zS ?_)
  refine rg_eqPtrNil rfl rfl ?_
  repeat (first|refine zA rfl ?_|refine zQ ?_|refine zR ?_|refine zS ?_|refine zV rfl ?_|refine yB ?_)
  (refine Rg.front 5 ?_; refine Rg.front 5 ?_; refine Rg.front 4 ?_; refine Rg.front 4 ?_; refine Rg.front 4 ?_; refine Rg.front 5 ?_)
  refine rg_call rfl (heads_ok c0 s0 k0 _ hB0) ?_
  rintro _ _ ⟨hb2, qs, hq, rfl, rfl⟩
  refine ⟨.inl rfl, ?_⟩
  repeat (first|refine zA rfl ?_|refine zB rfl rfl rfl ?_|refine zG rfl ?_|refine zP rfl ?_|refine zQ ?_|refine zR ?_|refine zS ?_|refine zZ rfl ?_)
  have hw : IntKind.wrap .u64 (s0.heads.length : Int) = s0.heads.length := wu_in (by omega)
  refine ex_cond_split rfl (fun h1 => ?_) (fun h1 => ?_)
  · have h1 := of_decide_eq_true h1
    rw [hw] at h1
    have e0 : hdRes s0 h = (shZ, 8) := by rw [hdRes, if_pos h1]
    simp only [e0] at ret
    repeat (first|refine zG rfl ?_|refine zO rfl rfl ?_|refine zQ ?_|refine zR ?_|refine zS ?_|refine zY rfl ?_)
    (refine Ex.front 6 ?_; refine Ex.front 3 ?_; refine Ex.front 6 ?_; refine Ex.front 6 ?_; refine Ex.front 6 ?_; refine Ex.front 6 ?_; refine Ex.front 6 ?_; refine Ex.front 7 ?_)
    refine ex_retC ret Try.func31 (Ent.cons (Ent.drop (Ent.drop (Ent.drop (Ent.drop (Ent.refl _)))))) (.agg rfl (List.mem_cons_self ..) inferInstance (.tmp rfl .nil)) ⟨_, rfl, rfl⟩
  have h1 := of_decide_eq_false h1
  rw [hw] at h1
  have hn : h.toNat < s0.heads.length := by omega
  obtain ⟨q, hqq⟩ : ∃ q, qs[h.toNat]? = some q := ⟨qs[h.toNat]'(by omega), List.getElem?_eq_getElem _⟩
  obtain ⟨x, hxx⟩ : ∃ x, s0.heads[h.toNat]? = some x := ⟨s0.heads[h.toNat], List.getElem?_eq_getElem _⟩
  have e0 : hdRes s0 h = (shOf x, 0) := by rw [hdRes, if_neg h1, List.getD_eq_getElem?_getD, hxx]; rfl
  simp only [e0] at ret
  repeat (first|refine zA rfl ?_|refine zR ?_|refine zS ?_|refine yB ?_)
  refine rg_indexSl rfl rfl ⟨hh, by omega⟩ ?_
  refine rg_load (v := ptrV q) rfl ?_ (by rw [Nat.zero_add, Nat.mul_one, List.getElem?_map, hqq]; rfl)
  (refine Rg.front 1 ?_)
  refine Rg.ent (ent_headsGet hqq hxx) ?_ (.inl rfl)
  refine rg_call rfl (short_ok q x _) ?_
  rintro _ _ ⟨b3, rfl, rfl⟩
  refine ⟨.inl rfl, ?_⟩
  repeat (first|refine zG rfl ?_|refine zO rfl rfl ?_|refine zQ ?_)
  (refine Ex.front 8 ?_; refine Ex.front 5 ?_; refine Ex.front 8 ?_; refine Ex.front 8 ?_; refine Ex.front 8 ?_; refine Ex.front 8 ?_; refine Ex.front 8 ?_; refine Ex.front 8 ?_; refine Ex.front 8 ?_; refine Ex.front 9 ?_)
  refine ex_retC ret Try.func31 (Ent.cons (Ent.drop (Ent.drop (Ent.drop (Ent.drop (Ent.drop (Ent.drop (Ent.refl _)))))))) (.agg rfl (List.mem_cons_self ..) inferInstance (.tmp rfl .nil)) ⟨_, rfl, rfl⟩

set_option maxHeartbeats 1000000 in
theorem Head1_ok (b c0 c1 : Nat) (tk : Int) (s0 s1 : Cn) (k0 k1 : Hd) (h : Int) (Γ : List Ch) (hB0 : s0.heads.length < 1000000000) (hB1 : s1.heads.length < 1000000000) (hh : 0 ≤ h) :
    CallsX Try.prog 31 #[ptrV b, .int .i64 1, .int .u64 h] (brL b c0 c1 tk s0 s1 k0 k1 Γ)
      (fun v Δ => ∃ b', v = .tuple #[.agg ⟨shL (hdRes s1 h).1⟩, .int .i64 (hdRes s1 h).2] ∧ Δ = .pt b' true (.cells ⟨shL (hdRes s1 h).1⟩ 71 (0, 0)) :: brL b c0 c1 tk s0 s1 k0 k1 Γ) := by
  refine calls_of_body (args := [ptrV b, .int .i64 1, .int .u64 h]) Try.func31 rfl Try.ntmps31 fun X cs ret => ?_
  repeat (first|refine zA rfl ?_|refine zG rfl ?_|refine zQ ?_|refine zR ?_|refine zS ?_|refine zW fun bl=>?_)
  (refine Rg.front 0 ?_; refine Rg.front 3 ?_; refine Rg.front 3 ?_; refine Rg.front 3 ?_)
  refine rg_call rfl (of1_ok b c0 c1 tk s0 s1 k0 k1 _ hB0) ?_
  rintro _ _ ⟨hb, ps, hlen, rfl, rfl⟩
  refine ⟨.inl rfl, ?_⟩
  repeat (first|refine zA rfl ?_|refine zG rfl ?_|refine zI rfl rfl ?_|refine zQ ?_|refine zR ?_|refine zS ?_)
  refine rg_eqPtrNil rfl rfl ?_
  repeat (first|refine zA rfl ?_|refine zQ ?_|refine zR ?_|refine zS ?_|refine zV rfl ?_|refine yB ?_)
  (refine Rg.front 5 ?_; refine Rg.front 4 ?_; refine Rg.front 4 ?_; refine Rg.front 4 ?_; refine Rg.front 4 ?_; refine Rg.front 5 ?_)
  refine rg_call rfl (heads_ok c1 s1 k1 _ hB1) ?_
  rintro _ _ ⟨hb2, qs, hq, rfl, rfl⟩
  refine ⟨.inl rfl, ?_⟩
  repeat (first|refine zA rfl ?_|refine zB rfl rfl rfl ?_|refine zG rfl ?_|refine zP rfl ?_|refine zQ ?_|refine zR ?_|refine zS ?_|refine zZ rfl ?_)
  have hw : IntKind.wrap .u64 (s1.heads.length : Int) = s1.heads.length := wu_in (by omega)
  refine ex_cond_split rfl (fun h1 => ?_) (fun h1 => ?_)
  · have h1 := of_decide_eq_true h1
    rw [hw] at h1
    have e0 : hdRes s1 h = (shZ, 8) := by rw [hdRes, if_pos h1]
    simp only [e0] at ret
    repeat (first|refine zG rfl ?_|refine zO rfl rfl ?_|refine zQ ?_|refine zR ?_|refine zS ?_|refine zY rfl ?_)
    (refine Ex.front 2 ?_; refine Ex.front 6 ?_; refine Ex.front 6 ?_; refine Ex.front 6 ?_; refine Ex.front 6 ?_; refine Ex.front 6 ?_; refine Ex.front 6 ?_; refine Ex.front 7 ?_)
    refine ex_retC ret Try.func31 (Ent.cons (Ent.drop (Ent.drop (Ent.drop (Ent.drop (Ent.refl _)))))) (.agg rfl (List.mem_cons_self ..) inferInstance (.tmp rfl .nil)) ⟨_, rfl, rfl⟩
  have h1 := of_decide_eq_false h1
  rw [hw] at h1
  have hn : h.toNat < s1.heads.length := by omega
  obtain ⟨q, hqq⟩ : ∃ q, qs[h.toNat]? = some q := ⟨qs[h.toNat]'(by omega), List.getElem?_eq_getElem _⟩
  obtain ⟨x, hxx⟩ : ∃ x, s1.heads[h.toNat]? = some x := ⟨s1.heads[h.toNat], List.getElem?_eq_getElem _⟩
  have e0 : hdRes s1 h = (shOf x, 0) := by rw [hdRes, if_neg h1, List.getD_eq_getElem?_getD, hxx]; rfl
  simp only [e0] at ret
  repeat (first|refine zA rfl ?_|refine zR ?_|refine zS ?_|refine yB ?_)
  refine rg_indexSl rfl rfl ⟨hh, by omega⟩ ?_
  refine rg_load (v := ptrV q) rfl ?_ (by rw [Nat.zero_add, Nat.mul_one, List.getElem?_map, hqq]; rfl)
  (refine Rg.front 1 ?_)
  refine Rg.ent (ent_headsGet hqq hxx) ?_ (.inl rfl)
  refine rg_call rfl (short_ok q x _) ?_
  rintro _ _ ⟨b3, rfl, rfl⟩
  refine ⟨.inl rfl, ?_⟩
  repeat (first|refine zG rfl ?_|refine zO rfl rfl ?_|refine zQ ?_)
  (refine Ex.front 4 ?_; refine Ex.front 8 ?_; refine Ex.front 8 ?_; refine Ex.front 8 ?_; refine Ex.front 8 ?_; refine Ex.front 8 ?_; refine Ex.front 8 ?_; refine Ex.front 8 ?_; refine Ex.front 8 ?_; refine Ex.front 9 ?_)
  refine ex_retC ret Try.func31 (Ent.cons (Ent.drop (Ent.drop (Ent.drop (Ent.drop (Ent.drop (Ent.drop (Ent.refl _)))))))) (.agg rfl (List.mem_cons_self ..) inferInstance (.tmp rfl .nil)) ⟨_, rfl, rfl⟩

theorem HeadX_ok (b : Nat) (c h : Int) (Γ : List Ch) (h0 : c ≠ 0) (h1 : c ≠ 1) :
    CallsX Try.prog 31 #[ptrV b, .int .i64 c, .int .u64 h] Γ (fun v Δ => ∃ b', v = .tuple #[.agg ⟨shL shZ⟩, .int .i64 1] ∧ Δ = .pt b' true (.cells ⟨shL shZ⟩ 71 (0, 0)) :: Γ) := by
  refine calls_of_body (args := [ptrV b, .int .i64 c, .int .u64 h]) Try.func31 rfl Try.ntmps31 fun X cs ret => ?_
  repeat (first|refine zA rfl ?_|refine zG rfl ?_|refine zQ ?_|refine zR ?_|refine zS ?_|refine zW fun bl=>?_)
  refine rg_call rfl (ofX_ok b c _ h0 h1) ?_
  rintro _ _ ⟨rfl, rfl⟩
  refine ⟨.inl rfl, ?_⟩
  repeat (first|refine zA rfl ?_|refine zG rfl ?_|refine zI rfl rfl ?_|refine zQ ?_|refine zR ?_|refine zS ?_)
  refine rg_eqPtrNil rfl rfl ?_
  repeat (first|refine zG rfl ?_|refine zO rfl rfl ?_|refine zQ ?_|refine zR ?_|refine zS ?_|refine zU rfl ?_|refine zY rfl ?_)
  refine ex_retC ret Try.func31 (Ent.refl _) (.agg rfl (List.mem_cons_self ..) inferInstance (.tmp rfl .nil)) ⟨_, rfl, rfl⟩

theorem Head_ok (b c0 c1 : Nat) (tk : Int) (s0 s1 : Cn) (k0 k1 : Hd) (c h : Int) (Γ : List Ch) (hB0 : s0.heads.length < 1000000000) (hB1 : s1.heads.length < 1000000000) (hh : 0 ≤ h) :
    CallsX Try.prog 31 #[ptrV b, .int .i64 c, .int .u64 h] (brL b c0 c1 tk s0 s1 k0 k1 Γ)
      (fun v Δ => ∃ b', v = .tuple #[.agg ⟨shL (headRes s0 s1 c h).1⟩, .int .i64 (headRes s0 s1 c h).2] ∧ Δ = .pt b' true (.cells ⟨shL (headRes s0 s1 c h).1⟩ 71 (0, 0)) :: brL b c0 c1 tk s0 s1 k0 k1 Γ) := by
  by_cases e0 : c = 0
  · subst e0; exact Head0_ok b c0 c1 tk s0 s1 k0 k1 h Γ hB0 hB1 hh
  by_cases e1 : c = 1
  · subst e1; exact Head1_ok b c0 c1 tk s0 s1 k0 k1 h Γ hB0 hB1 hh
  · have e : headRes s0 s1 c h = (shZ, 1) := by rw [headRes, if_neg e0, if_neg e1]
    rw [e]
    exact HeadX_ok b c h _ e0 e1

theorem head_under : Try.prog.underlying 71 = some (.struct ⟨[⟨ "Height", 36, 0, false, "", "", 0⟩, ⟨ "Time", 36, 1, false, "", "", 8⟩, ⟨ "Open", 4, 2, false, "", "", 16⟩, ⟨ "NextRecv", 36, 3, false, "", "", 24⟩, ⟨ "Packets", 3, 4, false, "", "", 32⟩, ⟨ "Answers", 3, 5, false, "", "", 40⟩]⟩) := Try.underlying71
theorem head_held : Try.prog.stoodInHeld 71 = false := by kernel_rfl
theorem head_guard : Try.prog.eqGuardType Try.prog.depth 71 = false := by kernel_rfl

/-- Do two headers say the same in short? -/
def sameRes (s0 s1 : Cn) (c h d g : Int) : Bool := decide ((headRes s0 s1 c h).2 = 0) && decide ((headRes s0 s1 d g).2 = 0) && decide ((headRes s0 s1 c h).1 = (headRes s0 s1 d g).1)

theorem sh_eq (x y : Sh) : ([decide (x.height = y.height), decide (x.time = y.time), x.opn == y.opn, decide (x.nrecv = y.nrecv), decide (x.np = y.np), decide (x.na = y.na)].all id) = decide (x = y) := by
  obtain ⟨a, b, c, d, e, f⟩ := x
  obtain ⟨a', b', c', d', e', f'⟩ := y
  rw [Bool.eq_iff_iff]
  simp [Sh.mk.injEq]

set_option maxHeartbeats 2000000 in
theorem Same_ok (b c0 c1 : Nat) (tk : Int) (s0 s1 : Cn) (k0 k1 : Hd) (c h d g : Int) (Γ : List Ch) (hB0 : s0.heads.length < 1000000000) (hB1 : s1.heads.length < 1000000000) (hh : 0 ≤ h) (hg : 0 ≤ g) :
    CallsX Try.prog 32 #[ptrV b, .int .i64 c, .int .u64 h, .int .i64 d, .int .u64 g] (brL b c0 c1 tk s0 s1 k0 k1 Γ)
      (fun v Δ => v = .bool (sameRes s0 s1 c h d g) ∧ Δ = brL b c0 c1 tk s0 s1 k0 k1 Γ) := by
  refine calls_of_body (args := [ptrV b, .int .i64 c, .int .u64 h, .int .i64 d, .int .u64 g]) Try.func32 rfl Try.ntmps32 fun X cs ret => ?_
  repeat (first|refine zA rfl ?_|refine zG rfl ?_|refine zQ ?_|refine zR ?_|refine zS ?_)
  refine rg_call rfl (Head_ok b c0 c1 tk s0 s1 k0 k1 c h _ hB0 hB1 hh) ?_
  rintro _ _ ⟨b1, rfl, rfl⟩
  refine ⟨.inl rfl, ?_⟩
  unfold sameRes at ret
  generalize headRes s0 s1 c h = r at ret ⊢
  obtain ⟨x, e⟩ := r
  dsimp only at ret ⊢
  repeat (first|refine zA rfl ?_|refine zG rfl ?_|refine zI rfl rfl ?_|refine zO rfl rfl ?_|refine zQ ?_|refine zR ?_|refine zS ?_|refine zW fun bl=>?_)
  (refine Rg.front 1 ?_; refine Rg.front 1 ?_; refine Rg.front 4 ?_; refine Rg.front 4 ?_; refine Rg.front 4 ?_)
  refine rg_call rfl (Head_ok b c0 c1 tk s0 s1 k0 k1 d g _ hB0 hB1 hg) ?_
  rintro _ _ ⟨b3, rfl, rfl⟩
  refine ⟨.inl rfl, ?_⟩
  generalize headRes s0 s1 d g = r at ret ⊢
  obtain ⟨y, f⟩ := r
  dsimp only at ret ⊢
  repeat (first|refine zA rfl ?_|refine zB rfl rfl rfl ?_|refine zG rfl ?_|refine zI rfl rfl ?_|refine zO rfl rfl ?_|refine zQ ?_|refine zR ?_|refine zS ?_|refine zW fun bl=>?_)
  refine rg_caseG rfl rfl (fun h1 => ?_) (fun h1 => ?_)
  · have h1 := of_decide_eq_true h1
    repeat (first|refine zA rfl ?_|refine zB rfl rfl rfl ?_|refine zK rfl rfl ?_)
    refine rg_caseG rfl rfl (fun h2 => ?_) (fun h2 => ?_)
    · have h2 := of_decide_eq_true h2
      repeat refine zH rfl ?_
      refine rg_eqAgg (rs := [decide (x.height = y.height), decide (x.time = y.time), x.opn == y.opn, decide (x.nrecv = y.nrecv), decide (x.np = y.np), decide (x.na = y.na)]) rfl rfl head_under head_held head_guard ⟨eqF_int (by decide) rfl rfl, eqF_int (by decide) rfl rfl, eqF_bool (by decide) rfl rfl, eqF_int (by decide) rfl rfl, eqF_int (by decide) rfl rfl, eqF_int (by decide) rfl rfl, trivial⟩ ?_
      rw [sh_eq]
      repeat (first|refine zG rfl ?_|refine zK rfl rfl ?_|refine zQ ?_)
      (refine Ex.front 4 ?_; refine Ex.front 4 ?_; refine Ex.front 4 ?_; refine Ex.front 6 ?_; refine Ex.front 6 ?_; refine Ex.front 6 ?_; refine Ex.front 6 ?_)
      refine ex_rete ret Try.func32 rfl (Ent.drop (Ent.drop (Ent.drop (Ent.drop (Ent.refl _))))) ⟨?_, rfl⟩
      simp [packV, h1, h2]
    · have h2 := of_decide_eq_false h2
      repeat (first|refine zG rfl ?_|refine zK rfl rfl ?_|refine zL rfl rfl rfl rfl (by decide) trivial rfl ?_|refine zQ ?_)
      (refine Ex.front 4 ?_; refine Ex.front 4 ?_; refine Ex.front 4 ?_; refine Ex.front 6 ?_; refine Ex.front 6 ?_; refine Ex.front 6 ?_; refine Ex.front 6 ?_)
      refine ex_rete ret Try.func32 rfl (Ent.drop (Ent.drop (Ent.drop (Ent.drop (Ent.refl _))))) ⟨?_, rfl⟩
      simp [packV, h2]
  · have h1 := of_decide_eq_false h1
    repeat (first|refine zA rfl ?_|refine zG rfl ?_|refine zK rfl rfl ?_|refine zL rfl rfl rfl rfl (by decide) trivial rfl ?_|refine zQ ?_)
    (refine Ex.front 4 ?_; refine Ex.front 4 ?_; refine Ex.front 4 ?_; refine Ex.front 6 ?_; refine Ex.front 6 ?_; refine Ex.front 6 ?_; refine Ex.front 6 ?_)
    refine ex_rete ret Try.func32 rfl (Ent.drop (Ent.drop (Ent.drop (Ent.drop (Ent.refl _))))) ⟨?_, rfl⟩
    simp [packV, h1]

end Go.Br
