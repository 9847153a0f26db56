/-
  Lemmas towards the law, proved without conditions of their own: Contract of commit of package chain; Contracts: Balance, Heads, Meet of package chain; Contracts: Short, Meet of package chain; Contract of New of package chain; Contract of Do of package chain; Contract of Do of package chain: Tick, Update, what is no step; JOINING: from a contract of this logic, at a world whose blocks it may read alone, to the kit's 'Calls'; what a law's row asks, at a world in which nothing has turned but new blocks.
-/
import Derived.Test.YtedaknlacigbhaaPk10
import Derived.Test.YtedaknlacigbhaaPk06
import Derived.Test.YtedaknlacigbhaaPk07
import Derived.ProofKit
import Derived.SizedLaws
import Derived.Conc.LeavingOf
namespace Go.Br
open Go Go.Lx Go.Proofs
open Go.Lx renaming rg_move → zA, rg_int → zB, rg_nilCheck → zC, rg_fieldAddr0 → zD, rg_fieldAddr → zE, rg_load → zF, rg_assign → zG, rg_loadAgg → zH, rg_extract → zI, rg_not → zJ, rg_pick → zK, rg_off → zL, rg_offU → zM, rg_store → zN, rg_storeAgg → zO, rg_convInt → zP, rg_done → zQ, ex_seq → zR, rg_start_s → zS, rg_start_d → zT, ex_cond_true → zU, ex_cond_false → zV, rg_alloc → zW, rg_boxAgg → zX, rg_build → zY, rg_lenSl → zZ, rg_lenMap → yA, ex_skip → yB, ex_block → yC, ex_inBlock → yD, ex_exit → yE, rg_caseG → yZ
set_option maxRecDepth 100000

abbrev cnCellsV (s : Cn) (pm pd am : Nat) (hs kv : Value) : List Value :=
  [.int .i64 s.n, .int .u64 s.hd.height, .int .u64 s.hd.time, .map (some pm), .int .u64 s.locked, .int .u64 s.about, .bool s.hd.opn, .int .u64 s.nsend, .int .u64 s.hd.nrecv, .map (some pd), .map (some am), hs, kv]

theorem pEs_len (l : List Pk) : (pEs l).length = l.length := by simp [pEs]
theorem aEs_len (l : List Ans) : (aEs l).length = l.length := by simp [aEs]

theorem ent_snoc {ps : List Nat} {xs : List Hd} {p : Nat} {x : Hd} {Γ : List Ch} : Ent (.pr (HeadsAt ps xs) :: .pr (HeadAt p x) :: Γ) (.pr (HeadsAt (ps ++ [p]) (xs ++ [x])) :: Γ) := .star fun h st => by
  have st' : Star ([.pr (HeadsAt ps xs), .pr (HeadAt p x)] ++ Γ) h := st
  obtain ⟨h1, h2, j, a, b⟩ := Star.open_.2 st'
  exact ⟨h1, h2, j, headsAt_snoc ps xs p x h1 a, b⟩

set_option maxHeartbeats 1000000 in
theorem commit_ok (c pm pd am ck ck2 : Nat) (hs kv : Value) (ps : List Nat) (s : Cn) (Γ : List Ch) (hlen : ps.length < 1000000000) :
    CallsX Try.prog 62 #[.pointer (some ⟨c, 0, none⟩)] (.pt c true (.cells ⟨cnCellsV s pm pd am hs kv⟩ 148 (0, 0)) :: .pt pd true (.map ⟨pEs s.hd.packets⟩ ck) :: .pt am true (.map ⟨aEs s.hd.answers⟩ ck2) :: .pr (SlV 111 1 hs (ps.map ptrV) ps.length) :: .pr (HeadsAt ps s.heads) :: Γ)
      (fun v Δ => v = .tuple #[] ∧ ∃ hs' p, Δ = .pt c true (.cells ⟨cnCellsV s pm pd am hs' kv⟩ 148 (0, 0)) :: .pt pd true (.map ⟨pEs s.hd.packets⟩ ck) :: .pt am true (.map ⟨aEs s.hd.answers⟩ ck2) :: .pr (SlV 111 1 hs' ((ps ++ [p]).map ptrV) (ps ++ [p]).length) :: .pr (HeadsAt (ps ++ [p]) (s.heads ++ [s.hd])) :: Γ) := by
  refine calls_of_body (args := [.pointer (some ⟨c, 0, none⟩)]) Try.func62 rfl Try.ntmps62 fun X cs ret => ?_
  repeat (first|refine zA rfl ?_|refine zC rfl ?_|refine zD rfl ?_|refine zE rfl ?_|refine zF rfl ?_|refine zO rfl rfl ?_|refine zQ ?_|refine zR ?_|refine zT (by decide+kernel) (by decide+kernel) ?_|refine zW fun bl=>?_|refine zY rfl ?_|refine yA rfl ?_)
  (refine rg_start_p [0, 1, 2, 3, 4, 5, 6, 7, 8, 9, 10, 12, 13, 14, 15, 16, 11, 17, 18, 19, 20, 21, 22, 23, 24] (by decide +kernel) (by decide +kernel) (by simp only [permL, List.getElem?_cons_succ, List.getElem?_cons_zero]; rfl) ?_)
  repeat (first|refine zA rfl ?_|refine zC rfl ?_|refine zE rfl ?_|refine zF rfl ?_|refine zH rfl ?_)
  (refine Rg.front 2 ?_)
  refine rg_call rfl (clonePk_ok pd true _ ck _) ?_
  rintro _ _ ⟨m1, rfl, rfl⟩
  refine ⟨.inr (by (repeat' first | exact trivial | refine ⟨.inr ⟨_, _, _, _, Find.mem, rfl⟩, ?_⟩ | refine ⟨.inr ⟨_, _, _, _, Find.mem, inferInstance⟩, ?_⟩ | refine ⟨.inr ⟨_, Find.mem⟩, ?_⟩ | refine ⟨.inl (by decide +kernel), ?_⟩)), ?_⟩
  (refine Rg.front 4 ?_)
  refine rg_call rfl (cloneA_ok am true _ ck2 _) ?_
  rintro _ _ ⟨m2, rfl, rfl⟩
  refine ⟨.inr (by (repeat' first | exact trivial | refine ⟨.inr ⟨_, _, _, _, Find.mem, rfl⟩, ?_⟩ | refine ⟨.inr ⟨_, _, _, _, Find.mem, inferInstance⟩, ?_⟩ | refine ⟨.inr ⟨_, Find.mem⟩, ?_⟩ | refine ⟨.inl (by decide +kernel), ?_⟩)), ?_⟩
  repeat (first|refine zX rfl fun bl=>?_|refine zY rfl ?_)
  refine rg_buildSlice (vs := [ptrV bl]) rfl rfl rfl rfl (fun b2 => ?_)
  (refine Rg.front 8 ?_)
  refine rg_append (xs := ps.map ptrV) (ys := [ptrV bl]) (len := ps.length) (c := 1) rfl rfl (.inr ⟨b2, 0, 1, true, [ptrV bl], 111, (0, 0), rfl, Find.mem, inferInstance⟩) (fun v hv => by simp at hv; subst hv; rfl) (by omega) (by omega) (fun s' => .inr (by (repeat' first | exact trivial | refine ⟨.inr ⟨_, _, _, _, Find.mem, rfl⟩, ?_⟩ | refine ⟨.inr ⟨_, _, _, _, Find.mem, inferInstance⟩, ?_⟩ | refine ⟨.inr ⟨_, Find.mem⟩, ?_⟩ | refine ⟨.inl (by decide +kernel), ?_⟩))) (fun s' hone => ?_)
  repeat (first|refine zC rfl ?_|refine zE rfl ?_)
  refine rg_store rfl rfl ?_ hone
  repeat refine zQ ?_
  simp only [pEs_len, aEs_len]
  (refine Ex.front 3 ?_)
  refine Ex.ro ?_
  (refine Ex.front 5 ?_)
  refine Ex.ro ?_
  (refine Ex.front 4 ?_)
  refine Ex.ro ?_
  refine Ex.ent (EntR.e (head_fold (x := s.hd) ⟨m1, m2, ck, ck2⟩)) ?_
  (refine Ex.front 7 ?_)
  refine Ex.ent ent_snoc ?_
  (refine Ex.front 1 ?_; refine Ex.front 3 ?_; refine Ex.front 4 ?_; refine Ex.front 6 ?_)
  refine ex_ende ret Try.func62 rfl (Ent.cons (Ent.cons (Ent.cons (Ent.cons (Ent.cons (Ent.drop (Ent.drop (Ent.refl Γ)))))))) ⟨rfl, s', bl, ?_⟩
  rw [List.map_append, List.length_append]; rfl

end Go.Br

namespace Go.Br
open Go Go.Lx Go.Proofs
open Go.Lx renaming rg_move → zA, rg_int → zB, rg_nilCheck → zC, rg_fieldAddr0 → zD, rg_fieldAddr → zE, rg_load → zF, rg_assign → zG, rg_loadAgg → zH, rg_extract → zI, rg_not → zJ, rg_pick → zK, rg_off → zL, rg_offU → zM, rg_store → zN, rg_storeAgg → zO, rg_convInt → zP, rg_done → zQ, ex_seq → zR, rg_start_s → zS, rg_start_d → zT, ex_cond_true → zU, ex_cond_false → zV, rg_alloc → zW, rg_boxAgg → zX, rg_build → zY, rg_lenSl → zZ, rg_lenMap → yA, ex_skip → yB, ex_block → yC, ex_inBlock → yD, ex_exit → yE, rg_caseG → yZ
set_option maxRecDepth 100000

theorem balance_ok (c : Nat) (s : Cn) (kn : Hd) (u co : Int) (Γ : List Ch) :
    CallsX Try.prog 46 #[.pointer (some ⟨c, 0, none⟩), .int .i64 u, .int .i64 co] (.pr (ChainAt c s kn) :: Γ)
      (fun v Δ => v = .int .u64 (s.has u co) ∧ Δ = .pr (ChainAt c s kn) :: Γ) := by
  refine CallsX.open_ chain_open fun y oky => ?_
  refine calls_of_body (args := [.pointer (some ⟨c, 0, none⟩), .int .i64 u, .int .i64 co]) Try.func46 rfl Try.ntmps46 fun X cs ret => ?_
  repeat (first|refine zA rfl ?_|refine zC rfl ?_|refine zE rfl ?_|refine zF rfl ?_|refine zG rfl ?_|refine zQ ?_|refine zR ?_|refine zS ?_|refine zY rfl ?_)
  refine rg_lookup rfl rfl (keyOK_purse u co) (findK_purse u co y.l) (oky.val u co).symm ?_
  repeat (first|refine zG rfl ?_|refine zQ ?_)
  exact ex_rete ret Try.func46 rfl (EntR.e (chain_fold y (by exact oky))) ⟨rfl, rfl⟩

theorem ent_dupHeads {ps : List Nat} {xs : List Hd} {Γ : List Ch} : Ent (.pr (HeadsAt ps xs) :: Γ) (.pr (HeadsAt ps xs) :: .pr (HeadsAt ps xs) :: Γ) := Ent.dup (pers_headsAt ps xs)

/-- A chain opened; what its list of headers looks like. -/
theorem chainS_open {c : Nat} {s : Cn} {kn : Hd} {Γ : List Ch} : ∀ h, Star (.pr (ChainAt c s kn) :: Γ) h → ∃ y : Lay, (PurseOK y.l y.ck s.has ∧ y.ps.length = s.heads.length ∧ ∃ a cap, y.hs = .slice a y.ps.length cap) ∧ Star (chainL c s kn y Γ) h := fun h st => by
  obtain ⟨y, ok, st⟩ := chain_open h st
  refine ⟨y, ⟨ok, ?_, ?_⟩, st⟩
  · have st' : Star (.pr (HeadsAt y.ps s.heads) :: _) h := st.perm (Nth.perm (Γ := chainL c s kn y Γ) (i := 5))
    obtain ⟨_, _, _, h5, _⟩ := st'
    exact headsAt_len _ _ _ h5
  · have st' : Star (.pr (SlV 111 1 y.hs (y.ps.map ptrV) y.ps.length) :: _) h := st.perm (Nth.perm (Γ := chainL c s kn y Γ) (i := 4))
    obtain ⟨_, _, _, h5, _⟩ := st'
    rcases h5 with ⟨h1, h2, h3⟩ | ⟨bl, cap, _, h1, _⟩
    · exact ⟨none, 0, by rw [h1, h3]⟩
    · exact ⟨_, cap, h1⟩

theorem heads_ok (c : Nat) (s : Cn) (kn : Hd) (Γ : List Ch) (hB : s.heads.length < 1000000000) :
    CallsX Try.prog 47 #[.pointer (some ⟨c, 0, none⟩)] (.pr (ChainAt c s kn) :: Γ)
      (fun v Δ => ∃ b ps, ps.length = s.heads.length ∧ v = .slice (some ⟨b, 0, none⟩) s.heads.length s.heads.length ∧ Δ = .pt b true (.cells ⟨ps.map ptrV⟩ 111 (0, 0)) :: .pr (HeadsAt ps s.heads) :: .pr (ChainAt c s kn) :: Γ) := by
  refine CallsX.open_ chainS_open fun y ⟨oky, hl, a, cap, hhs⟩ => ?_
  obtain ⟨pm, pd, am, hs, kp, l, ck, ps⟩ := y
  dsimp only at oky hl hhs ⊢
  subst hhs
  refine calls_of_body (args := [.pointer (some ⟨c, 0, none⟩)]) Try.func47 rfl Try.ntmps47 fun X cs ret => ?_
  repeat (first|refine zA rfl ?_|refine zC rfl ?_|refine zE rfl ?_|refine zF rfl ?_|refine zG rfl ?_|refine zQ ?_|refine zR ?_|refine zS ?_|refine zZ rfl ?_)
  refine rg_makeSlice (len := ps.length) rfl rfl rfl rfl (by omega) (by omega) (fun _ => .inl rfl) (fun b => ?_)
  repeat (first|refine zA rfl ?_|refine zC rfl ?_|refine zE rfl ?_|refine zF rfl ?_|refine zG rfl ?_|refine zQ ?_|refine zR ?_|refine zS ?_)
  (refine Rg.front 5 ?_; refine Rg.front 1 ?_)
  refine rg_copyOwn rfl rfl (by simp) (fun v hv => ?_) ?_
  · obtain ⟨p, _, rfl⟩ := List.mem_map.1 hv; rfl
  repeat (first|refine zA rfl ?_|refine zG rfl ?_|refine zQ ?_|refine zR ?_|refine zS ?_)
  (refine Ex.front 6 ?_)
  refine Ex.ent ent_dupHeads ?_
  (refine Ex.front 8 ?_; refine Ex.front 1 ?_; refine Ex.front 4 ?_; refine Ex.front 8 ?_; refine Ex.front 8 ?_; refine Ex.front 8 ?_; refine Ex.front 8 ?_; refine Ex.front 7 ?_; refine Ex.front 8 ?_)
  refine ex_rete ret Try.func47 rfl (Ent.cons (Ent.cons (EntR.e (chain_fold ⟨pm, pd, am, .slice a ps.length cap, kp, l, ck, ps⟩ (by exact oky))))) ⟨b, ps, hl, ?_, rfl⟩
  show Value.slice _ ps.length ps.length = _
  rw [hl]

end Go.Br

namespace Go.Br
open Go Go.Lx Go.Proofs
open Go.Lx renaming rg_move → zA, rg_int → zB, rg_nilCheck → zC, rg_fieldAddr0 → zD, rg_fieldAddr → zE, rg_load → zF, rg_assign → zG, rg_loadAgg → zH, rg_extract → zI, rg_not → zJ, rg_pick → zK, rg_off → zL, rg_offU → zM, rg_store → zN, rg_storeAgg → zO, rg_convInt → zP, rg_done → zQ, ex_seq → zR, rg_start_s → zS, rg_start_d → zT, ex_cond_true → zU, ex_cond_false → zV, rg_alloc → zW, rg_boxAgg → zX, rg_build → zY, rg_lenSl → zZ, rg_lenMap → yA, ex_skip → yB, ex_block → yC, ex_inBlock → yD, ex_exit → yE, rg_caseG → yZ
set_option maxRecDepth 100000

theorem slv_open {el m : Nat} {s : Value} {xs : List Value} {len : Nat} {Γ : List Ch} (hpos : 0 < len) : ∀ h, Star (.pr (SlV el m s xs len) :: Γ) h → ∃ z : Nat × Nat × List Value, (s = .slice (some ⟨z.1, 0, none⟩) len z.2.1 ∧ len ≤ z.2.1 ∧ xs.length = len * m ∧ z.2.2.length = (z.2.1 - len) * m) ∧ Star (.pt z.1 true (.cells ⟨xs ++ z.2.2⟩ el (0, 0)) :: Γ) h := fun h st => by
  rcases star_slv.1 st with ⟨_, _, h3, _⟩ | ⟨bl, cap, slack, a, b, c, d, e⟩
  · omega
  · exact ⟨(bl, cap, slack), ⟨a, b, c, d⟩, e⟩

theorem slv_fold {el m : Nat} {xs : List Value} {len : Nat} {Γ : List Ch} (z : Nat × Nat × List Value) (h : len ≤ z.2.1 ∧ xs.length = len * m ∧ z.2.2.length = (z.2.1 - len) * m) : EntR (.pr (SlV el m (.slice (some ⟨z.1, 0, none⟩) len z.2.1) xs len) :: Γ) (.pt z.1 true (.cells ⟨xs ++ z.2.2⟩ el (0, 0)) :: Γ) :=
  .star fun _ st => star_slv.2 (.inr ⟨z.1, z.2.1, z.2.2, rfl, h.1, h.2.1, h.2.2, st⟩)

set_option maxHeartbeats 1000000 in
theorem meet_ok (c o : Nat) (s s' : Cn) (kn kn' x : Hd) (xs : List Hd) (Γ : List Ch) (hx : s'.heads = x :: xs) :
    CallsX Try.prog 45 #[.pointer (some ⟨c, 0, none⟩), .pointer (some ⟨o, 0, none⟩)] (.pr (ChainAt o s' kn') :: .pr (ChainAt c s kn) :: Γ)
      (fun v Δ => v = .tuple #[] ∧ Δ = .pr (ChainAt o s' kn') :: .pr (ChainAt c s x) :: Γ) := by
  refine CallsX.open_ chainS_open fun y ⟨oky, hl, _⟩ => ?_
  obtain ⟨pm, pd, am, hs, kp, l, ck, ps⟩ := y
  dsimp only at oky hl ⊢
  rw [hx] at hl
  obtain ⟨p, ps, rfl⟩ : ∃ p ps', ps = p :: ps' := by cases ps with
    | nil => cases hl
    | cons p ps => exact ⟨p, ps, rfl⟩
  refine calls_of_body (args := [.pointer (some ⟨c, 0, none⟩), .pointer (some ⟨o, 0, none⟩)]) Try.func45 rfl Try.ntmps45 fun X cs ret => ?_
  dsimp only [chainL]
  (refine Ex.front 4 ?_)
  refine Ex.open_ (slv_open (by simp)) fun z hz => ?_
  obtain ⟨b, cap, slack⟩ := z
  obtain ⟨hz1, hz⟩ := hz
  dsimp only at hz1 hz ⊢
  subst hz1
  simp only [List.map_cons, List.cons_append]
  (refine Ex.front 7 ?_)
  refine Ex.open_ chain_open fun y' oky' => ?_
  repeat (first|refine zA rfl ?_|refine zC rfl ?_|refine zE rfl ?_|refine zF rfl ?_|refine zS ?_)
  refine rg_indexSl rfl rfl ⟨by decide, by simp only [List.length_cons]; omega⟩ ?_
  simp only [Int.toNat_zero, Nat.zero_mul, Nat.add_zero]
  repeat (first|refine zC rfl ?_|refine zE rfl ?_|refine zF rfl ?_|refine zN rfl rfl ?_|refine zQ ?_)
  rw [hx]
  (refine Ex.front 12 ?_)
  refine Ex.ent (ent_headsGet (i := 0) rfl rfl) ?_
  (refine Ex.front 0 ?_; refine Ex.front 7 ?_; refine Ex.front 7 ?_; refine Ex.front 7 ?_; refine Ex.front 7 ?_; refine Ex.front 7 ?_; refine Ex.front 7 ?_; refine Ex.front 14 ?_; refine Ex.front 8 ?_; refine Ex.front 14 ?_; refine Ex.front 14 ?_; refine Ex.front 14 ?_; refine Ex.front 14 ?_; refine Ex.front 14 ?_; refine Ex.front 14 ?_)
  refine Ex.drop ?_
  refine Ex.ent (EntR.e (slv_fold (m := 1) (xs := ptrV p :: ps.map ptrV) (len := (p :: ps).length) (b, cap, slack) hz)) ?_
  (refine Ex.front 4 ?_; refine Ex.front 4 ?_; refine Ex.front 4 ?_; refine Ex.front 4 ?_)
  rw [← hx]
  exact ex_ende ret Try.func45 rfl (Ent.trans (EntR.e (chain_fold (c := o) (s := s') (kn := kn') ⟨pm, pd, am, .slice (some ⟨b, 0, none⟩) (p :: ps).length cap, kp, l, ck, p :: ps⟩ (by exact oky))) (Ent.cons (EntR.e (chain_fold (c := c) (s := s) (kn := x) { y' with kp := p } (by exact oky'))))) ⟨rfl, rfl⟩

end Go.Br

namespace Go.Br
open Go Go.Lx Go.Proofs
open Go.Lx renaming rg_move → zA, rg_int → zB, rg_nilCheck → zC, rg_fieldAddr0 → zD, rg_fieldAddr → zE, rg_load → zF, rg_assign → zG, rg_loadAgg → zH, rg_extract → zI, rg_not → zJ, rg_pick → zK, rg_off → zL, rg_offU → zM, rg_store → zN, rg_storeAgg → zO, rg_convInt → zP, rg_done → zQ, ex_seq → zR, rg_start_s → zS, rg_start_d → zT, ex_cond_true → zU, ex_cond_false → zV, rg_alloc → zW, rg_boxAgg → zX, rg_build → zY, rg_lenSl → zZ, rg_lenMap → yA, ex_skip → yB, ex_block → yC, ex_inBlock → yD, ex_exit → yE, rg_caseG → yZ
set_option maxRecDepth 100000

theorem ent_emp {A : LH → Prop} {Γ : List Ch} (h : A fun _ => none) : Ent Γ (.pr A :: Γ) := .star fun _ st => ⟨fun _ => none, _, fun _ => .inl ⟨rfl, rfl⟩, h, st⟩

theorem upd_new (l : List UE) (u c v : Int) (ck : Nat) (h : findU l u c 0 = none) : updE (l.map uEnt) ck (purse u c) (.int .u64 v) (findU l u c 0) = ((l ++ [(u, c, v, ck)]).map uEnt, ck + 1) := by
  rw [h]; simp [updE, uEnt]

abbrev preCn (n coins : Int) : Cn :=
  { n := n, hd := { height := 0, time := 0, opn := true, nrecv := 1, packets := [], answers := [] }
    has := fun u c => if isUser u = true ∧ c = n then coins else 0, locked := 0, about := 0, nsend := 1, heads := [], known := 0 }

theorem newPurse_ok (n coins : Int) : PurseOK [(0, n, coins, 0), (1, n, coins, 1), (2, n, coins, 2)] 3 (newCn n coins).has where
  val := fun u c => by
    show (Value.int .u64 (if isUser u = true ∧ c = n then coins else 0)) = _
    by_cases hc : c = n
    · subst hc
      by_cases h0 : u = 0
      · subst h0; simp [findU, isUser]
      by_cases h1 : u = 1
      · subst h1; simp [findU, isUser]
      by_cases h2 : u = 2
      · subst h2; simp [findU, isUser]
      have : isUser u = false := by simp [isUser]; omega
      simp [findU, h0, h1, h2, this]
    · simp [findU, hc]
  keys := by simp
  born := by simp
  lt := by simp

set_option maxHeartbeats 1000000 in
theorem new_ok (n coins : Int) (Γ : List Ch) (hc : 0 ≤ coins) :
    CallsX Try.prog 44 #[.int .i64 n, .int .u64 coins] Γ
      (fun v Δ => ∃ c, v = ptrV c ∧ Δ = .pr (ChainAt c (newCn n coins) (newCn n coins).hd) :: Γ) := by
  refine calls_of_body (args := [.int .i64 n, .int .u64 coins]) Try.func44 rfl Try.ntmps44 fun X cs ret => ?_
  repeat (first|refine zA rfl ?_|refine zG rfl ?_|refine zQ ?_|refine zR ?_|refine zS ?_)
  refine rg_makeMap (fun pm => ?_)
  refine rg_makeMap (fun pd => ?_)
  refine rg_makeMap (fun am => ?_)
  repeat (first|refine zA rfl ?_|refine zG rfl ?_|refine zQ ?_|refine zR ?_|refine zS ?_|refine zX rfl fun bl=>?_|refine zY rfl ?_|refine yC ?_)
  refine ex_loop ?_
  repeat (first|refine zA rfl ?_|refine zB rfl rfl rfl ?_|refine zC rfl ?_|refine zE rfl ?_|refine zF rfl ?_|refine zG rfl ?_|refine zQ ?_|refine zR ?_|refine zS ?_|refine zU rfl ?_|refine zY rfl ?_|refine yB ?_|refine yC ?_)
  refine rg_mapUpdate rfl rfl rfl (keyOK_purse 0 n) (findK_purse 0 n []) (fun _ _ e => by simp [findU] at e) ?_
  rw [upd_new _ _ _ _ _ (by simp [findU])]
  dsimp only [List.nil_append, List.cons_append]
  repeat (first|refine zA rfl ?_|refine zB rfl rfl rfl ?_|refine zQ ?_|refine zS ?_|refine yD ?_)
  rw [show IntKind.wrap .i64 (0 + 1) = 1 from by decide]
  skip
  refine ex_inLoop ?_
  repeat (first|refine zA rfl ?_|refine zB rfl rfl rfl ?_|refine zC rfl ?_|refine zE rfl ?_|refine zF rfl ?_|refine zG rfl ?_|refine zQ ?_|refine zR ?_|refine zS ?_|refine zU rfl ?_|refine zY rfl ?_|refine yB ?_|refine yC ?_)
  refine rg_mapUpdate rfl rfl rfl (keyOK_purse 1 n) (findK_purse 1 n [(0, n, coins, 0)]) (fun _ _ e => by simp [findU] at e) ?_
  rw [upd_new _ _ _ _ _ (by simp [findU])]
  dsimp only [List.nil_append, List.cons_append]
  repeat (first|refine zA rfl ?_|refine zB rfl rfl rfl ?_|refine zQ ?_|refine zS ?_|refine yD ?_)
  rw [show IntKind.wrap .i64 (1 + 1) = 2 from by decide]
  skip
  refine ex_inLoop ?_
  repeat (first|refine zA rfl ?_|refine zB rfl rfl rfl ?_|refine zC rfl ?_|refine zE rfl ?_|refine zF rfl ?_|refine zG rfl ?_|refine zQ ?_|refine zR ?_|refine zS ?_|refine zU rfl ?_|refine zY rfl ?_|refine yB ?_|refine yC ?_)
  refine rg_mapUpdate rfl rfl rfl (keyOK_purse 2 n) (findK_purse 2 n [(0, n, coins, 0), (1, n, coins, 1)]) (fun _ _ e => by simp [findU] at e) ?_
  rw [upd_new _ _ _ _ _ (by simp [findU])]
  dsimp only [List.nil_append, List.cons_append]
  repeat (first|refine zA rfl ?_|refine zB rfl rfl rfl ?_|refine zQ ?_|refine zS ?_|refine yD ?_)
  rw [show IntKind.wrap .i64 (2 + 1) = 3 from by decide]
  skip
  refine ex_inLoop ?_
  repeat (first|refine zA rfl ?_|refine zB rfl rfl rfl ?_|refine zQ ?_|refine zR ?_|refine zS ?_|refine zV rfl ?_|refine yE rfl ?_)
  refine Rg.ent (ent_emp (A := HeadsAt [] []) trivial) ?_
  refine Rg.ent (ent_emp (A := SlV 111 1 (.slice none 0 0) (([] : List Nat).map ptrV) ([] : List Nat).length) (.inl ⟨rfl, rfl, rfl⟩)) ?_
  (refine Rg.front 5 ?_; refine Rg.front 2 ?_; refine Rg.front 2 ?_; refine Rg.front 4 ?_; refine Rg.front 5 ?_; refine Rg.front 5 ?_)
  refine rg_call rfl (commit_ok bl pm pd am 0 0 (.slice none 0 0) (.pointer none) [] (preCn n coins) _ (by decide)) ?_
  rintro _ _ ⟨rfl, hs', p, rfl⟩
  refine ⟨.inl rfl, ?_⟩
  refine Rg.front 3 ?_
  refine rg_done ?_
  refine Ex.open_ (slv_open (Nat.succ_pos _)) fun z hz => ?_
  obtain ⟨b, cap, slack⟩ := z
  obtain ⟨hz1, hz⟩ := hz
  dsimp only at hz1 hz ⊢
  subst hz1
  dsimp only [List.nil_append, List.map_cons, List.map_nil, List.cons_append] at hz ⊢
  repeat (first|refine zA rfl ?_|refine zC rfl ?_|refine zE rfl ?_|refine zF rfl ?_|refine zR ?_|refine zS ?_)
  refine rg_indexSl rfl rfl ⟨by decide, by simp⟩ ?_
  simp only [Int.toNat_zero, Nat.zero_mul, Nat.add_zero]
  repeat (first|refine zA rfl ?_|refine zC rfl ?_|refine zE rfl ?_|refine zF rfl ?_|refine zG rfl ?_|refine zN rfl rfl ?_|refine zQ ?_|refine zR ?_|refine zS ?_)
  (refine Ex.front 4 ?_)
  refine Ex.ent (ent_headsGet (i := 0) rfl rfl) ?_
  (refine Ex.front 0 ?_; refine Ex.front 1 ?_; refine Ex.front 5 ?_; refine Ex.front 5 ?_; refine Ex.front 6 ?_; refine Ex.front 6 ?_; refine Ex.front 6 ?_)
  refine Ex.ent (EntR.e (slv_fold (m := 1) (xs := [ptrV p]) (len := 1) (b, cap, slack) hz)) ?_
  (refine Ex.front 6 ?_; refine Ex.front 6 ?_; refine Ex.front 2 ?_; refine Ex.front 6 ?_; refine Ex.front 6 ?_; refine Ex.front 6 ?_; refine Ex.front 6 ?_)
  exact ex_rete ret Try.func44 rfl (EntR.e (chain_fold (s := newCn n coins) ⟨pm, pd, am, .slice (some ⟨b, 0, none⟩) 1 cap, p, _, _, [p]⟩ (newPurse_ok n coins))) ⟨bl, rfl, rfl⟩

end Go.Br

namespace Go.Br
open Go Go.Lx Go.Proofs
open Go.Lx renaming rg_move → zA, rg_int → zB, rg_nilCheck → zC, rg_fieldAddr0 → zD, rg_fieldAddr → zE, rg_load → zF, rg_assign → zG, rg_loadAgg → zH, rg_extract → zI, rg_not → zJ, rg_pick → zK, rg_off → zL, rg_offU → zM, rg_store → zN, rg_storeAgg → zO, rg_convInt → zP, rg_done → zQ, ex_seq → zR, rg_start_s → zS, rg_start_d → zT, ex_cond_true → zU, ex_cond_false → zV, rg_alloc → zW, rg_boxAgg → zX, rg_build → zY, rg_lenSl → zZ, rg_lenMap → yA, ex_skip → yB, ex_block → yC, ex_inBlock → yD, ex_exit → yE, rg_caseG → yZ
set_option maxRecDepth 100000

/-- The header that is known behind a step. -/
def stepKn (s : Cn) (x : Stp) (kn : Hd) (xs : List Hd) : Hd :=
  if x.kind = 3 then (if (xs.length : Int) ≤ x.n ∨ x.n ≤ s.known then kn else xs.getD x.n.toNat kn) else kn

/-- What is asked of a step's numbers. -/
structure OkStp (x : Stp) : Prop where
  n : 0 ≤ x.n ∧ x.n < 18446744073709551616

/-- The contract at a step. -/
def DoAt (c hb : Nat) (hp : Bool) (s : Cn) (kn : Hd) (x : Stp) (ps : List Nat) (xs : List Hd) (Γ : List Ch) : Prop :=
    CallsX Try.prog 58 #[ptrV c, stV x, .slice (some ⟨hb, 0, none⟩) xs.length xs.length] (.pr (ChainAt c s kn) :: .pt hb hp (.cells ⟨ps.map ptrV⟩ 111 (0, 0)) :: .pr (HeadsAt ps xs) :: Γ)
      (fun v Δ => v = .tuple #[.int .u64 (step s x kn xs.length).2.1, .int .i64 (step s x kn xs.length).2.2] ∧ Δ = .pr (ChainAt c (step s x kn xs.length).1 (stepKn s x kn xs)) :: .pt hb hp (.cells ⟨ps.map ptrV⟩ 111 (0, 0)) :: .pr (HeadsAt ps xs) :: Γ)

set_option maxHeartbeats 2000000 in
theorem do_send (c hb : Nat) (hp : Bool) (s : Cn) (kn : Hd) (n : Int) (p : Pk) (ps : List Nat) (xs : List Hd) (B : Nat) (Γ : List Ch) (ok : Ok B s) (okk : OkHd B kn) (hB : B < 100000000) (hx : 0 ≤ n ∧ n < 18446744073709551616) (hkn : kn.height = s.known) (hl : ps.length = xs.length) (hxl : xs.length < 1000000000) :
    DoAt c hb hp s kn ⟨1, n, p⟩ ps xs Γ := by
  refine calls_of_body (args := [ptrV c, stV ⟨1, n, p⟩, .slice (some ⟨hb, 0, none⟩) xs.length xs.length]) Try.func58 rfl Try.ntmps58 fun X cs ret => ?_
  refine ex_seq (rg_start_s (rg_boxAgg rfl fun b1 => ?_))
  repeat (first|refine zA rfl ?_|refine zB rfl rfl rfl ?_|refine zD rfl ?_|refine zE rfl ?_|refine zF rfl ?_|refine zG rfl ?_|refine zH rfl ?_|refine zQ ?_|refine zR ?_|refine zS ?_|refine zU rfl ?_|refine yC ?_)
  (refine Rg.front 1 ?_)
  refine rg_call rfl (send_ok c s kn p B _ ok (by omega)) ?_
  rintro _ _ ⟨rfl, rfl⟩
  refine ⟨.inl rfl, ?_⟩
  repeat (first|refine zG rfl ?_|refine zI rfl rfl ?_|refine zQ ?_)
  exact ex_rete ret Try.func58 rfl (Ent.cons (Ent.drop (Ent.refl _))) ⟨rfl, rfl⟩

set_option maxHeartbeats 2000000 in
theorem do_recv (c hb : Nat) (hp : Bool) (s : Cn) (kn : Hd) (n : Int) (p : Pk) (ps : List Nat) (xs : List Hd) (B : Nat) (Γ : List Ch) (ok : Ok B s) (okk : OkHd B kn) (hB : B < 100000000) (hx : 0 ≤ n ∧ n < 18446744073709551616) (hkn : kn.height = s.known) (hl : ps.length = xs.length) (hxl : xs.length < 1000000000) :
    DoAt c hb hp s kn ⟨4, n, p⟩ ps xs Γ := by
  refine calls_of_body (args := [ptrV c, stV ⟨4, n, p⟩, .slice (some ⟨hb, 0, none⟩) xs.length xs.length]) Try.func58 rfl Try.ntmps58 fun X cs ret => ?_
  refine ex_seq (rg_start_s (rg_boxAgg rfl fun b1 => ?_))
  repeat (first|refine zA rfl ?_|refine zB rfl rfl rfl ?_|refine zD rfl ?_|refine zE rfl ?_|refine zF rfl ?_|refine zG rfl ?_|refine zQ ?_|refine zR ?_|refine zS ?_|refine zU rfl ?_|refine zV rfl ?_|refine yC ?_)
  (refine Rg.front 1 ?_)
  refine rg_call rfl (recv_ok c s kn n B _ ok okk (by omega)) ?_
  rintro _ _ ⟨rfl, rfl⟩
  refine ⟨.inl rfl, ?_⟩
  repeat (first|refine zG rfl ?_|refine zQ ?_)
  exact ex_rete ret Try.func58 rfl (Ent.cons (Ent.drop (Ent.refl _))) ⟨rfl, rfl⟩

set_option maxHeartbeats 2000000 in
theorem do_ack (c hb : Nat) (hp : Bool) (s : Cn) (kn : Hd) (n : Int) (p : Pk) (ps : List Nat) (xs : List Hd) (B : Nat) (Γ : List Ch) (ok : Ok B s) (okk : OkHd B kn) (hB : B < 100000000) (hx : 0 ≤ n ∧ n < 18446744073709551616) (hkn : kn.height = s.known) (hl : ps.length = xs.length) (hxl : xs.length < 1000000000) :
    DoAt c hb hp s kn ⟨5, n, p⟩ ps xs Γ := by
  refine calls_of_body (args := [ptrV c, stV ⟨5, n, p⟩, .slice (some ⟨hb, 0, none⟩) xs.length xs.length]) Try.func58 rfl Try.ntmps58 fun X cs ret => ?_
  refine ex_seq (rg_start_s (rg_boxAgg rfl fun b1 => ?_))
  repeat (first|refine zA rfl ?_|refine zB rfl rfl rfl ?_|refine zD rfl ?_|refine zE rfl ?_|refine zF rfl ?_|refine zG rfl ?_|refine zQ ?_|refine zR ?_|refine zS ?_|refine zU rfl ?_|refine zV rfl ?_|refine yC ?_)
  (refine Rg.front 1 ?_)
  refine rg_call rfl (ack_ok c s kn n B _ ok) ?_
  rintro _ _ ⟨rfl, rfl⟩
  refine ⟨.inl rfl, ?_⟩
  repeat (first|refine zG rfl ?_|refine zQ ?_)
  exact ex_rete ret Try.func58 rfl (Ent.cons (Ent.drop (Ent.refl _))) ⟨rfl, rfl⟩

set_option maxHeartbeats 2000000 in
theorem do_timeout (c hb : Nat) (hp : Bool) (s : Cn) (kn : Hd) (n : Int) (p : Pk) (ps : List Nat) (xs : List Hd) (B : Nat) (Γ : List Ch) (ok : Ok B s) (okk : OkHd B kn) (hB : B < 100000000) (hx : 0 ≤ n ∧ n < 18446744073709551616) (hkn : kn.height = s.known) (hl : ps.length = xs.length) (hxl : xs.length < 1000000000) :
    DoAt c hb hp s kn ⟨6, n, p⟩ ps xs Γ := by
  refine calls_of_body (args := [ptrV c, stV ⟨6, n, p⟩, .slice (some ⟨hb, 0, none⟩) xs.length xs.length]) Try.func58 rfl Try.ntmps58 fun X cs ret => ?_
  refine ex_seq (rg_start_s (rg_boxAgg rfl fun b1 => ?_))
  repeat (first|refine zA rfl ?_|refine zB rfl rfl rfl ?_|refine zD rfl ?_|refine zE rfl ?_|refine zF rfl ?_|refine zG rfl ?_|refine zQ ?_|refine zR ?_|refine zS ?_|refine zU rfl ?_|refine zV rfl ?_|refine yB ?_|refine yC ?_)
  (refine Rg.front 1 ?_)
  refine rg_call rfl (timeout_ok c s kn n false _) ?_
  rintro _ _ ⟨rfl, rfl⟩
  refine ⟨.inl rfl, ?_⟩
  repeat (first|refine zG rfl ?_|refine zQ ?_)
  exact ex_rete ret Try.func58 rfl (Ent.cons (Ent.drop (Ent.refl _))) ⟨rfl, rfl⟩

set_option maxHeartbeats 2000000 in
theorem do_timeoutC (c hb : Nat) (hp : Bool) (s : Cn) (kn : Hd) (n : Int) (p : Pk) (ps : List Nat) (xs : List Hd) (B : Nat) (Γ : List Ch) (ok : Ok B s) (okk : OkHd B kn) (hB : B < 100000000) (hx : 0 ≤ n ∧ n < 18446744073709551616) (hkn : kn.height = s.known) (hl : ps.length = xs.length) (hxl : xs.length < 1000000000) :
    DoAt c hb hp s kn ⟨7, n, p⟩ ps xs Γ := by
  refine calls_of_body (args := [ptrV c, stV ⟨7, n, p⟩, .slice (some ⟨hb, 0, none⟩) xs.length xs.length]) Try.func58 rfl Try.ntmps58 fun X cs ret => ?_
  refine ex_seq (rg_start_s (rg_boxAgg rfl fun b1 => ?_))
  repeat (first|refine zA rfl ?_|refine zB rfl rfl rfl ?_|refine zD rfl ?_|refine zE rfl ?_|refine zF rfl ?_|refine zG rfl ?_|refine zQ ?_|refine zR ?_|refine zS ?_|refine zU rfl ?_|refine zV rfl ?_|refine yC ?_)
  (refine Rg.front 1 ?_)
  refine rg_call rfl (timeout_ok c s kn n true _) ?_
  rintro _ _ ⟨rfl, rfl⟩
  refine ⟨.inl rfl, ?_⟩
  repeat (first|refine zG rfl ?_|refine zQ ?_)
  exact ex_rete ret Try.func58 rfl (Ent.cons (Ent.drop (Ent.refl _))) ⟨rfl, rfl⟩

set_option maxHeartbeats 2000000 in
theorem do_close (c hb : Nat) (hp : Bool) (s : Cn) (kn : Hd) (n : Int) (p : Pk) (ps : List Nat) (xs : List Hd) (B : Nat) (Γ : List Ch) (ok : Ok B s) (okk : OkHd B kn) (hB : B < 100000000) (hx : 0 ≤ n ∧ n < 18446744073709551616) (hkn : kn.height = s.known) (hl : ps.length = xs.length) (hxl : xs.length < 1000000000) :
    DoAt c hb hp s kn ⟨8, n, p⟩ ps xs Γ := by
  refine CallsX.open_ chain_open fun y oky => ?_
  refine calls_of_body (args := [ptrV c, stV ⟨8, n, p⟩, .slice (some ⟨hb, 0, none⟩) xs.length xs.length]) Try.func58 rfl Try.ntmps58 fun X cs ret => ?_
  refine ex_seq (rg_start_s (rg_boxAgg rfl fun b1 => ?_))
  repeat (first|refine zA rfl ?_|refine zB rfl rfl rfl ?_|refine zC rfl ?_|refine zD rfl ?_|refine zE rfl ?_|refine zF rfl ?_|refine zG rfl ?_|refine zJ rfl ?_|refine zQ ?_|refine zR ?_|refine zS ?_|refine zU rfl ?_|refine zV rfl ?_|refine yB ?_|refine yC ?_)
  refine ex_cond_split rfl (fun h1 => ?_) (fun h1 => ?_)
  · have h1 : s.hd.opn = false := by simpa using h1
    have e0 : step s ⟨8, n, p⟩ kn xs.length = (s, 0, 2) := by simp [step, h1]
    have e1 : stepKn s ⟨8, n, p⟩ kn xs = kn := rfl
    simp only [e0, e1] at ret
    repeat (first|refine zG rfl ?_|refine zQ ?_|refine zR ?_|refine zS ?_)
    exact ex_rete ret Try.func58 rfl (Ent.drop (EntR.e (chain_fold y (by exact oky)))) ⟨rfl, rfl⟩
  · have h1 : s.hd.opn = true := by simpa using h1
    have e0 : step s ⟨8, n, p⟩ kn xs.length = ({ s with hd := { s.hd with opn := false } }, 0, 0) := by simp [step, h1]
    have e1 : stepKn s ⟨8, n, p⟩ kn xs = kn := rfl
    simp only [e0, e1] at ret
    repeat (first|refine zA rfl ?_|refine zB rfl rfl rfl ?_|refine zC rfl ?_|refine zD rfl ?_|refine zE rfl ?_|refine zF rfl ?_|refine zG rfl ?_|refine zK rfl rfl ?_|refine zL rfl rfl rfl rfl (by decide) trivial rfl ?_|refine zN rfl rfl ?_|refine zQ ?_|refine zR ?_|refine zS ?_|refine zV rfl ?_|refine yB ?_|refine yD ?_)
    exact ex_rete ret Try.func58 rfl (Ent.drop (EntR.e (chain_fold y (by exact oky)))) ⟨rfl, rfl⟩

set_option maxHeartbeats 2000000 in
theorem do_confirm (c hb : Nat) (hp : Bool) (s : Cn) (kn : Hd) (n : Int) (p : Pk) (ps : List Nat) (xs : List Hd) (B : Nat) (Γ : List Ch) (ok : Ok B s) (okk : OkHd B kn) (hB : B < 100000000) (hx : 0 ≤ n ∧ n < 18446744073709551616) (hkn : kn.height = s.known) (hl : ps.length = xs.length) (hxl : xs.length < 1000000000) :
    DoAt c hb hp s kn ⟨9, n, p⟩ ps xs Γ := by
  refine CallsX.open_ chainH_open fun (y, z) oky => ?_
  dsimp only at oky ⊢
  refine calls_of_body (args := [ptrV c, stV ⟨9, n, p⟩, .slice (some ⟨hb, 0, none⟩) xs.length xs.length]) Try.func58 rfl Try.ntmps58 fun X cs ret => ?_
  refine ex_seq (rg_start_s (rg_boxAgg rfl fun b1 => ?_))
  repeat (first|refine zA rfl ?_|refine zB rfl rfl rfl ?_|refine zC rfl ?_|refine zD rfl ?_|refine zE rfl ?_|refine zF rfl ?_|refine zG rfl ?_|refine zJ rfl ?_|refine zQ ?_|refine zR ?_|refine zS ?_|refine zU rfl ?_|refine zV rfl ?_|refine yC ?_)
  refine ex_cond_split rfl (fun h1 => ?_) (fun h1 => ?_)
  · have h1 : s.hd.opn = false := by simpa using h1
    have e0 : step s ⟨9, n, p⟩ kn xs.length = (s, 0, 2) := by simp [step, h1]
    have e1 : stepKn s ⟨9, n, p⟩ kn xs = kn := rfl
    simp only [e0, e1] at ret
    repeat (first|refine zG rfl ?_|refine zQ ?_|refine zR ?_|refine zS ?_)
    exact ex_rete ret Try.func58 rfl (Ent.drop (EntR.e (chainH_fold y z (by exact oky)))) ⟨rfl, rfl⟩
  have h1 : s.hd.opn = true := by simpa using h1
  repeat (first|refine zA rfl ?_|refine zB rfl rfl rfl ?_|refine zC rfl ?_|refine zD rfl ?_|refine zE rfl ?_|refine zF rfl ?_|refine zG rfl ?_|refine zK rfl rfl ?_|refine zQ ?_|refine zR ?_|refine zS ?_)
  refine ex_cond_split rfl (fun h2 => ?_) (fun h2 => ?_)
  · have e0 : step s ⟨9, n, p⟩ kn xs.length = (s, 0, 14) := by simp [step, h1, h2]
    have e1 : stepKn s ⟨9, n, p⟩ kn xs = kn := rfl
    simp only [e0, e1] at ret
    repeat (first|refine zG rfl ?_|refine zQ ?_|refine zR ?_|refine zS ?_)
    exact ex_rete ret Try.func58 rfl (Ent.drop (EntR.e (chainH_fold y z (by exact oky)))) ⟨rfl, rfl⟩
  · have e0 : step s ⟨9, n, p⟩ kn xs.length = ({ s with hd := { s.hd with opn := false } }, 0, 0) := by simp [step, h1, h2]
    have e1 : stepKn s ⟨9, n, p⟩ kn xs = kn := rfl
    simp only [e0, e1] at ret
    repeat (first|refine zA rfl ?_|refine zC rfl ?_|refine zD rfl ?_|refine zE rfl ?_|refine zG rfl ?_|refine zN rfl rfl ?_|refine zQ ?_|refine zR ?_|refine zS ?_|refine yB ?_|refine yD ?_)
    exact ex_rete ret Try.func58 rfl (Ent.drop (EntR.e (chainH_fold y z (by exact oky)))) ⟨rfl, rfl⟩

end Go.Br

namespace Go.Br
open Go Go.Lx Go.Proofs
open Go.Lx renaming rg_move → zA, rg_int → zB, rg_nilCheck → zC, rg_fieldAddr0 → zD, rg_fieldAddr → zE, rg_load → zF, rg_assign → zG, rg_loadAgg → zH, rg_extract → zI, rg_not → zJ, rg_pick → zK, rg_off → zL, rg_offU → zM, rg_store → zN, rg_storeAgg → zO, rg_convInt → zP, rg_done → zQ, ex_seq → zR, rg_start_s → zS, rg_start_d → zT, ex_cond_true → zU, ex_cond_false → zV, rg_alloc → zW, rg_boxAgg → zX, rg_build → zY, rg_lenSl → zZ, rg_lenMap → yA, ex_skip → yB, ex_block → yC, ex_inBlock → yD, ex_exit → yE, rg_caseG → yZ
set_option maxRecDepth 100000

theorem wrap_u64 (x : Int) : IntKind.wrap .u64 x = x % 18446744073709551616 := by
  simp only [IntKind.wrap, IntKind.bits, IntKind.signed, Bool.false_and, Bool.false_eq_true, if_false]; rfl

theorem step_update (s : Cn) (n : Int) (p : Pk) (kn : Hd) (nh : Nat) : step s ⟨3, n, p⟩ kn nh = if (nh : Int) ≤ n ∨ n ≤ s.known then (s, 0, 8) else ({ s with known := n.toNat }, 0, 0) := rfl
theorem stepKn_update (s : Cn) (n : Int) (p : Pk) (kn : Hd) (xs : List Hd) : stepKn s ⟨3, n, p⟩ kn xs = if (xs.length : Int) ≤ n ∨ n ≤ s.known then kn else xs.getD n.toNat kn := rfl
theorem step_tick (s : Cn) (n : Int) (p : Pk) (kn : Hd) (nh : Nat) : step s ⟨2, n, p⟩ kn nh = if 18446744073709551615 - s.hd.time < n then (s, 0, 15) else (commit { s with hd := { s.hd with time := wu (s.hd.time + n), height := wu (s.hd.height + 1) } }, 0, 0) := rfl

set_option maxHeartbeats 2000000 in
theorem do_update (c hb : Nat) (hp : Bool) (s : Cn) (kn : Hd) (n : Int) (p : Pk) (ps : List Nat) (xs : List Hd) (Γ : List Ch) (hx : 0 ≤ n ∧ n < 18446744073709551616) (hkn : kn.height = s.known) (hl : ps.length = xs.length) (hxl : xs.length < 1000000000) :
    DoAt c hb hp s kn ⟨3, n, p⟩ ps xs Γ := by
  refine CallsX.open_ chainH_open fun (y, z) oky => ?_
  dsimp only at oky ⊢
  refine calls_of_body (args := [ptrV c, stV ⟨3, n, p⟩, .slice (some ⟨hb, 0, none⟩) xs.length xs.length]) Try.func58 rfl Try.ntmps58 fun X cs ret => ?_
  refine ex_seq (rg_start_s (rg_boxAgg rfl fun b1 => ?_))
  repeat (first|refine zA rfl ?_|refine zB rfl rfl rfl ?_|refine zD rfl ?_|refine zE rfl ?_|refine zF rfl ?_|refine zG rfl ?_|refine zP rfl ?_|refine zQ ?_|refine zR ?_|refine zS ?_|refine zT (by decide+kernel) (by decide+kernel) ?_|refine zU rfl ?_|refine zV rfl ?_|refine zZ rfl ?_|refine yC ?_)
  have hw : IntKind.wrap .u64 (xs.length : Int) = xs.length := wu_in (by omega)
  refine rg_caseG rfl rfl (fun h1 => ?_) (fun h1 => ?_)
  · have h1 := of_decide_eq_true h1
    rw [hw] at h1
    have e0 : step s ⟨3, n, p⟩ kn xs.length = (s, 0, 8) := by rw [step_update, if_pos (.inl h1)]
    have e1 : stepKn s ⟨3, n, p⟩ kn xs = kn := by rw [stepKn_update, if_pos (.inl h1)]
    simp only [e0, e1] at ret
    repeat (first|refine zG rfl ?_|refine zK rfl rfl ?_|refine zL rfl rfl rfl rfl (by decide) trivial rfl ?_|refine zQ ?_|refine zR ?_|refine zS ?_|refine zU rfl ?_)
    exact ex_rete ret Try.func58 rfl (Ent.drop (EntR.e (chainH_fold y z (by exact oky)))) ⟨rfl, rfl⟩
  have h1 := of_decide_eq_false h1
  rw [hw] at h1
  dsimp only at h1
  repeat (first|refine zA rfl ?_|refine zB rfl rfl rfl ?_|refine zC rfl ?_|refine zD rfl ?_|refine zE rfl ?_|refine zF rfl ?_|refine zK rfl rfl ?_|refine zQ ?_)
  refine ex_cond_split rfl (fun h2 => ?_) (fun h2 => ?_)
  · have h2 := of_decide_eq_true h2
    rw [hkn] at h2
    have e0 : step s ⟨3, n, p⟩ kn xs.length = (s, 0, 8) := by rw [step_update, if_pos (.inr h2)]
    have e1 : stepKn s ⟨3, n, p⟩ kn xs = kn := by rw [stepKn_update, if_pos (.inr h2)]
    simp only [e0, e1] at ret
    repeat (first|refine zG rfl ?_|refine zQ ?_|refine zR ?_|refine zS ?_)
    exact ex_rete ret Try.func58 rfl (Ent.drop (EntR.e (chainH_fold y z (by exact oky)))) ⟨rfl, rfl⟩
  have h2 := of_decide_eq_false h2
  rw [hkn] at h2
  dsimp only at h2
  have hn : n.toNat < xs.length := by omega
  obtain ⟨q, hq⟩ : ∃ q, ps[n.toNat]? = some q := ⟨ps[n.toNat]'(by omega), List.getElem?_eq_getElem _⟩
  obtain ⟨x, hxx⟩ : ∃ x, xs[n.toNat]? = some x := ⟨xs[n.toNat], List.getElem?_eq_getElem _⟩
  have e0 : step s ⟨3, n, p⟩ kn xs.length = ({ s with known := n.toNat }, 0, 0) := by rw [step_update, if_neg (by omega)]
  have e1 : stepKn s ⟨3, n, p⟩ kn xs = x := by rw [stepKn_update, if_neg (by omega), List.getD_eq_getElem?_getD, hxx]; rfl
  simp only [e0, e1] at ret
  repeat (first|refine zA rfl ?_|refine zE rfl ?_|refine zF rfl ?_|refine zR ?_|refine zS ?_|refine yB ?_)
  refine rg_indexSl rfl rfl ⟨hx.1, by dsimp only; omega⟩ ?_
  refine rg_load (v := ptrV q) rfl ?_ (by rw [Nat.zero_add, Nat.mul_one, List.getElem?_map, hq]; rfl)
  repeat (first|refine zC rfl ?_|refine zE rfl ?_|refine zG rfl ?_|refine zN rfl rfl ?_|refine zQ ?_|refine zR ?_|refine zS ?_)
  (refine Ex.front 12 ?_)
  refine Ex.ent (ent_headsGet hq hxx) ?_
  (refine Ex.front 1 ?_; refine Ex.front 13 ?_; refine Ex.front 2 ?_; refine Ex.front 9 ?_; refine Ex.front 9 ?_; refine Ex.front 9 ?_; refine Ex.front 9 ?_; refine Ex.front 9 ?_; refine Ex.front 9 ?_; refine Ex.front 13 ?_; refine Ex.front 13 ?_; refine Ex.front 13 ?_; refine Ex.front 13 ?_; refine Ex.front 13 ?_)
  refine Ex.drop (Ex.drop (Ex.drop (Ex.drop (Ex.drop ?_))))
  exact ex_rete ret Try.func58 rfl (EntR.e (chain_fold (s := { s with known := n.toNat }) (kn := x) { y with kp := q } (by exact oky))) ⟨rfl, rfl⟩

set_option maxHeartbeats 2000000 in
theorem do_tick (c hb : Nat) (hp : Bool) (s : Cn) (kn : Hd) (n : Int) (p : Pk) (ps : List Nat) (xs : List Hd) (B : Nat) (Γ : List Ch) (ok : Ok B s) (hB : B < 100000000) (hx : 0 ≤ n ∧ n < 18446744073709551616) :
    DoAt c hb hp s kn ⟨2, n, p⟩ ps xs Γ := by
  refine CallsX.open_ chainS_open fun y ⟨oky, hl, _⟩ => ?_
  obtain ⟨pm, pd, am, hs, kp, l, ck, qs⟩ := y
  dsimp only at oky hl ⊢
  refine calls_of_body (args := [ptrV c, stV ⟨2, n, p⟩, .slice (some ⟨hb, 0, none⟩) xs.length xs.length]) Try.func58 rfl Try.ntmps58 fun X cs ret => ?_
  refine ex_seq (rg_start_s (rg_boxAgg rfl fun b1 => ?_))
  repeat (first|refine zA rfl ?_|refine zB rfl rfl rfl ?_|refine zC rfl ?_|refine zD rfl ?_|refine zE rfl ?_|refine zF rfl ?_|refine zG rfl ?_|refine zQ ?_|refine zR ?_|refine zS ?_|refine zT (by decide+kernel) (by decide+kernel) ?_|refine zU rfl ?_|refine zV rfl ?_|refine yC ?_)
  have ht := ok.hd.time
  have hh := ok.hd.height
  have hlen := ok.len
  have hmod := wrap_u64 (s.hd.time + n)
  refine ex_cond_split rfl (fun h1 => ?_) (fun h1 => ?_)
  · replace h1 : IntKind.wrap .u64 (s.hd.time + n) < s.hd.time := of_decide_eq_true h1
    rw [hmod] at h1
    have h1 : 18446744073709551615 - s.hd.time < n := by omega
    have e0 : step s ⟨2, n, p⟩ kn xs.length = (s, 0, 15) := by rw [step_tick, if_pos h1]
    have e1 : stepKn s ⟨2, n, p⟩ kn xs = kn := rfl
    simp only [e0, e1] at ret
    repeat (first|refine zG rfl ?_|refine zQ ?_|refine zR ?_|refine zS ?_)
    exact ex_rete ret Try.func58 rfl (Ent.drop (EntR.e (chain_fold ⟨pm, pd, am, hs, kp, l, ck, qs⟩ (by exact oky)))) ⟨rfl, rfl⟩
  · replace h1 : ¬ IntKind.wrap .u64 (s.hd.time + n) < s.hd.time := of_decide_eq_false h1
    rw [hmod] at h1
    have h1 : ¬ 18446744073709551615 - s.hd.time < n := by omega
    have e0 : step s ⟨2, n, p⟩ kn xs.length = (commit { s with hd := { s.hd with time := wu (s.hd.time + n), height := wu (s.hd.height + 1) } }, 0, 0) := by rw [step_tick, if_neg h1]
    have e1 : stepKn s ⟨2, n, p⟩ kn xs = kn := rfl
    simp only [e0, e1] at ret
    repeat (first|refine zA rfl ?_|refine zB rfl rfl rfl ?_|refine zC rfl ?_|refine zE rfl ?_|refine zF rfl ?_|refine zN rfl rfl ?_|refine zQ ?_|refine zR ?_|refine zS ?_|refine zT (by decide+kernel) (by decide+kernel) ?_|refine yB ?_)
    (refine Rg.front 7 ?_; refine Rg.front 3 ?_; refine Rg.front 2 ?_; refine Rg.front 7 ?_; refine Rg.front 7 ?_; refine Rg.front 7 ?_; refine Rg.front 7 ?_; refine Rg.front 7 ?_)
    refine rg_call rfl (commit_ok c pm pd am (s.nsend - 1).toNat s.hd.answers.length hs (ptrV kp) qs { s with hd := { s.hd with time := wu (s.hd.time + n), height := wu (s.hd.height + 1) } } _ (by omega)) ?_
    rintro _ _ ⟨rfl, hs', q, rfl⟩
    refine ⟨.inl rfl, ?_⟩
    repeat (first|refine zG rfl ?_|refine zQ ?_|refine zR ?_|refine zS ?_)
    (refine Ex.front 7 ?_; refine Ex.front 5 ?_; refine Ex.front 5 ?_; refine Ex.front 5 ?_; refine Ex.front 5 ?_; refine Ex.front 7 ?_; refine Ex.front 6 ?_; refine Ex.front 7 ?_)
    refine Ex.drop ?_
    exact ex_rete ret Try.func58 rfl (EntR.e (chain_fold (s := commit { s with hd := { s.hd with time := wu (s.hd.time + n), height := wu (s.hd.height + 1) } }) (kn := kn) ⟨pm, pd, am, hs', kp, l, ck, qs ++ [q]⟩ (by exact oky))) ⟨rfl, rfl⟩

set_option maxHeartbeats 2000000 in
theorem do_none (c hb : Nat) (hp : Bool) (s : Cn) (kn : Hd) (k n : Int) (p : Pk) (ps : List Nat) (xs : List Hd) (Γ : List Ch) (hk : k < 1 ∨ 9 < k) :
    DoAt c hb hp s kn ⟨k, n, p⟩ ps xs Γ := by
  have e0 : step s ⟨k, n, p⟩ kn xs.length = (s, 0, 16) := by
    unfold step
    rw [if_neg (by dsimp only; omega), if_neg (by dsimp only; omega), if_neg (by dsimp only; omega), if_neg (by dsimp only; omega), if_neg (by dsimp only; omega), if_neg (by dsimp only; omega), if_neg (by dsimp only; omega), if_neg (by dsimp only; omega), if_neg (by dsimp only; omega)]
  have e1 : stepKn s ⟨k, n, p⟩ kn xs = kn := by unfold stepKn; rw [if_neg (by dsimp only; omega)]
  unfold DoAt
  simp only [e0, e1]
  refine calls_of_body (args := [ptrV c, stV ⟨k, n, p⟩, .slice (some ⟨hb, 0, none⟩) xs.length xs.length]) Try.func58 rfl Try.ntmps58 fun X cs ret => ?_
  refine ex_seq (rg_start_s (rg_boxAgg rfl fun b1 => ?_))
  repeat (first|refine zB rfl rfl rfl ?_|refine zD rfl ?_|refine zF rfl ?_|refine zG rfl ?_|refine zQ ?_|refine zR ?_|refine zS ?_|refine yC ?_)
  refine ex_cond_split rfl (fun h1 => absurd (of_decide_eq_true h1) (by dsimp only; omega)) (fun _ => ?_)
  repeat (first|refine zB rfl rfl rfl ?_|refine zG rfl ?_|refine zQ ?_|refine zR ?_|refine zS ?_)
  refine ex_cond_split rfl (fun h1 => absurd (of_decide_eq_true h1) (by dsimp only; omega)) (fun _ => ?_)
  repeat (first|refine zB rfl rfl rfl ?_|refine zG rfl ?_|refine zQ ?_|refine zR ?_|refine zS ?_)
  refine ex_cond_split rfl (fun h1 => absurd (of_decide_eq_true h1) (by dsimp only; omega)) (fun _ => ?_)
  repeat (first|refine zB rfl rfl rfl ?_|refine zG rfl ?_|refine zQ ?_|refine zR ?_|refine zS ?_)
  refine ex_cond_split rfl (fun h1 => absurd (of_decide_eq_true h1) (by dsimp only; omega)) (fun _ => ?_)
  repeat (first|refine zB rfl rfl rfl ?_|refine zG rfl ?_|refine zQ ?_|refine zS ?_)
  refine ex_cond_split rfl (fun h1 => absurd (of_decide_eq_true h1) (by dsimp only; omega)) (fun _ => ?_)
  repeat (first|refine zB rfl rfl rfl ?_|refine zG rfl ?_|refine zQ ?_|refine zR ?_|refine zS ?_)
  refine ex_cond_split rfl (fun h1 => absurd (of_decide_eq_true h1) (by dsimp only; omega)) (fun _ => ?_)
  repeat (first|refine zB rfl rfl rfl ?_|refine zG rfl ?_|refine zQ ?_|refine zR ?_|refine zS ?_)
  refine ex_cond_split rfl (fun h1 => absurd (of_decide_eq_true h1) (by dsimp only; omega)) (fun _ => ?_)
  repeat (first|refine zB rfl rfl rfl ?_|refine zG rfl ?_|refine zQ ?_|refine zR ?_|refine zS ?_)
  refine ex_cond_split rfl (fun h1 => absurd (of_decide_eq_true h1) (by dsimp only; omega)) (fun _ => ?_)
  repeat (first|refine zB rfl rfl rfl ?_|refine zG rfl ?_|refine zQ ?_|refine zS ?_)
  refine ex_cond_split rfl (fun h1 => absurd (of_decide_eq_true h1) (by dsimp only; omega)) (fun _ => ?_)
  repeat (first|refine zG rfl ?_|refine zQ ?_|refine zR ?_|refine zS ?_|refine yB ?_|refine yD ?_)
  exact ex_rete ret Try.func58 rfl (Ent.drop (Ent.refl _)) ⟨rfl, rfl⟩

theorem do_ok (c hb : Nat) (hp : Bool) (s : Cn) (kn : Hd) (x : Stp) (ps : List Nat) (xs : List Hd) (B : Nat) (Γ : List Ch) (ok : Ok B s) (okk : OkHd B kn) (hB : B < 100000000) (hx : 0 ≤ x.n ∧ x.n < 18446744073709551616) (hkn : kn.height = s.known) (hl : ps.length = xs.length) (hxl : xs.length < 1000000000) :
    DoAt c hb hp s kn x ps xs Γ := by
  obtain ⟨k, n, p⟩ := x
  by_cases h : k < 1 ∨ 9 < k
  · exact do_none c hb hp s kn k n p ps xs Γ h
  have hk : k = 1 ∨ k = 2 ∨ k = 3 ∨ k = 4 ∨ k = 5 ∨ k = 6 ∨ k = 7 ∨ k = 8 ∨ k = 9 := by omega
  rcases hk with rfl | rfl | rfl | rfl | rfl | rfl | rfl | rfl | rfl
  · exact do_send c hb hp s kn n p ps xs B Γ ok okk hB hx hkn hl hxl
  · exact do_tick c hb hp s kn n p ps xs B Γ ok hB hx
  · exact do_update c hb hp s kn n p ps xs Γ hx hkn hl hxl
  · exact do_recv c hb hp s kn n p ps xs B Γ ok okk hB hx hkn hl hxl
  · exact do_ack c hb hp s kn n p ps xs B Γ ok okk hB hx hkn hl hxl
  · exact do_timeout c hb hp s kn n p ps xs B Γ ok okk hB hx hkn hl hxl
  · exact do_timeoutC c hb hp s kn n p ps xs B Γ ok okk hB hx hkn hl hxl
  · exact do_close c hb hp s kn n p ps xs B Γ ok okk hB hx hkn hl hxl
  · exact do_confirm c hb hp s kn n p ps xs B Γ ok okk hB hx hkn hl hxl

end Go.Br

namespace Go.Lx
open Go

/-- A program piece that turns nothing, not even the count of draws. -/
def RO {α : Type} : Sem α → Prop
  | .pure _ => True
  | .load _ _ k => ∀ v, RO (k v)
  | .shape _ k => ∀ s, RO (k s)
  | .frozen _ k => ∀ b, RO (k b)
  | .program k => ∀ p, RO (k p)
  | .mark _ k => RO k
  | .halt _ => True
  | _ => False

theorem RO.bind {α β : Type} {e : Sem α} {f : α → Sem β} (h : RO e) (hf : ∀ a, RO (f a)) : RO (e.bind f) := by
  induction e with
  | pure a => exact hf a
  | load m a k ih => exact fun v => ih v (h v)
  | shape r k ih => exact fun v => ih v (h v)
  | frozen a k ih => exact fun v => ih v (h v)
  | program k ih => exact fun v => ih v (h v)
  | mark m k ih => exact ih h
  | halt x => trivial
  | _ => exact h.elim

theorem RO.bind' {α β : Type} {e : Sem α} {f : α → Sem β} (h : RO e) (hf : ∀ a, RO (f a)) : RO (e >>= f) := RO.bind h hf

theorem RO.run {P : Program} {α : Type} {e : Sem α} : RO e → ∀ {w w' : World} {a : α} {es es' : Array Event}, e.runT P w es = (.ok a w', es') → w' = w ∧ e.run P w = .ok a w := by
  induction e with
  | pure a => intro _ w w' b es es' e; simp [Sem.runT] at e; exact ⟨e.1.2.symm, by simp [Sem.run, e.1.1]⟩
  | load m a k ih =>
    intro h w w' b es es' e
    rw [Sem.runT] at e
    rw [Sem.run]
    cases hc : w.cell? a with
    | some v => rw [hc] at e; exact ih v (h v) e
    | none =>
      rw [hc] at e
      cases hf : w.farLoad P a (m == .atomic) with
      | ok x => rw [hf] at e; obtain ⟨v, t⟩ := x; exact ih v (h v) e
      | error x => rw [hf] at e; simp at e
  | shape r k ih => intro h w w' b es es' e; rw [Sem.runT] at e; rw [Sem.run]; exact ih _ (h _) e
  | frozen a k ih => intro h w w' b es es' e; rw [Sem.runT] at e; rw [Sem.run]; exact ih _ (h _) e
  | program k ih => intro h w w' b es es' e; rw [Sem.runT] at e; rw [Sem.run]; exact ih _ (h _) e
  | mark m k ih => intro h w w' b es es' e; rw [Sem.runT] at e; rw [Sem.run]; exact ih h e
  | halt x => intro h w w' b es es' e; simp [Sem.runT] at e
  | _ => intro h; exact h.elim

theorem ro_pure {α : Type} (a : α) : RO (pure a : Sem α) := trivial
theorem ro_stuck {α : Type} (s : String) : RO (stuck s : Sem α) := trivial
theorem ro_underlying (t : TypeId) : RO (underlying t) := by
  intro p
  show RO (match p.underlying t with | some d => _ | none => _)
  split <;> trivial
theorem ro_typeInfo (t : TypeId) : RO (typeInfo t) := by
  intro p
  show RO (match p.info? t with | some d => _ | none => _)
  split <;> trivial
theorem ro_sizeOf (t : TypeId) : RO (sizeOf t) := RO.bind' (ro_typeInfo t) fun _ => trivial
theorem ro_isAgg (t : TypeId) : RO (isAgg t) := RO.bind' (ro_underlying t) fun d => by split <;> trivial
theorem ro_loadCellsFrom (a : Addr) : ∀ (n i : Nat) (acc : Array Value), RO (loadCellsFrom a i n acc)
  | 0, _, _ => trivial
  | n + 1, i, acc => RO.bind' (fun v => trivial) fun v => ro_loadCellsFrom a n (i + 1) _
theorem ro_loadVar (t : TypeId) (a : Addr) : RO (loadVar t a) := by
  unfold loadVar
  refine RO.bind' (ro_isAgg t) fun b => ?_
  split
  · exact RO.bind' (ro_sizeOf t) fun n => RO.bind' (ro_loadCellsFrom a n 0 _) fun _ => trivial
  · exact fun v => trivial
theorem ro_asAddr (v : Value) : RO (asAddr v) := by
  unfold asAddr
  split
  · trivial
  · exact fun p => trivial
  · trivial
theorem ro_mapM {α β : Type} {f : α → Sem β} (h : ∀ a, RO (f a)) : ∀ l : List α, RO (l.mapM f)
  | [] => by rw [List.mapM_nil]; trivial
  | a :: l => by rw [List.mapM_cons]; exact RO.bind' (h a) fun b => RO.bind' (ro_mapM h l) fun _ => trivial
theorem ro_results (fn : Func) (tmps : Array Value) : RO (results fn tmps) := by
  unfold results
  rw [← Array.toArray_toList (xs := fn.results), List.mapM_toArray]
  refine RO.bind' ?_ fun _ => trivial
  rw [map_eq_pure_bind]
  refine RO.bind' (ro_mapM (fun a => ?_) _) fun _ => trivial
  split
  · trivial
  · exact RO.bind' (ro_asAddr _) fun _ => ro_loadVar _ _

/-- New blocks, and of what was there nothing has turned. -/
structure GrownO (W W' : World) : Prop where
  os : W'.os = W.os
  output : W'.output = W.output
  size : W.heap.size ≤ W'.heap.size
  heap : ∀ i, i < W.heap.size → W'.heap[i]? = W.heap[i]?

theorem GrownO.kept {W W' : World} (g : GrownO W W') (may : MemPlace → Prop) : W.keptBut W' may := by
  refine ⟨g.os, g.output, fun i hi => ?_⟩
  rw [g.heap i hi]
  cases h : W.heap[i]? with
  | none => rfl
  | some o => cases o <;> simp

theorem GrownO.frozen {W W' : World} (g : GrownO W W') {a : Addr} (h : a.block < W.heap.size) : W'.frozen? a = W.frozen? a := by
  simp [World.frozen?, g.heap _ h]

section
open Go.ChangeShapes Go.WideShapes
variable {H : Type} {enc : TypeId × Value → H} {P : Program}

/-- 'post_of_same' where what is frozen is asked of what was there alone, and nothing is asked of the results again. -/
theorem post_of_grown {f : Func} {s : ChangeSpec} {apart fresh handsOn : Bool} {W W' : World} {args : Array Value} {v : Value} {ds gs : List (DataW H)} {before pa pv : List MemPlace}
    (hW : DataW.Whole enc P f.params.toList s.vars apart W args.toList ds gs before)
    (hres : ∀ (b : Nat) (sp : Nat → Bool) (hd : Bool), DataW.TrodAll enc P W' b sp hd f.resultTypes.toList (v.resultList f.resultTypes.size) (s.fn H (ds ++ gs)).results [])
    (hargs : ∀ sp : Nat → Bool, (∀ p ∈ before, sp p.block = true) → DataW.TrodAll enc P W' 0 sp true f.params.toList args.toList (s.fn H (ds ++ gs)).args pa)
    (hvars : ∀ sp : Nat → Bool, (∀ p ∈ before, sp p.block = true) → DataW.TrodVars enc P W' sp s.vars (s.fn H (ds ++ gs)).vars pv)
    (hps : before = pa ++ pv) (hk : GrownO W W') : s.post enc P f apart fresh handsOn false W args v W' := by
  have hold : ∀ p ∈ before, (fun b => decide (b < W.heap.size)) p.block = true := fun p hp => by simpa using hW.lt p hp
  refine ⟨ds, gs, before, [], pa, pv, hW, hres _ _ _, hargs _ hold, hvars _ hold, hk.kept _, fun e => by cases e⟩

end

end Go.Lx
