/-
  Lemmas towards the law, proved without conditions of their own: KEEP: each step keeps what holds of the two chains. Plain law; KEEP: packets that are answered, or come back; all steps. Plain law; KEEP: a step of either chain keeps all; at the beginning all holds. Plain law; KEEP: the world of the moves in memory.
-/
import Derived.Test.YtedaknlacigbhaaPk17
namespace Go.Br
open Go

theorem get_snoc {α : Type} {l : List α} {x y : α} {i : Nat} (h : (l ++ [x])[i]? = some y) : l[i]? = some y ∨ (i = l.length ∧ y = x) := by
  rcases Nat.lt_or_ge i l.length with hl | hl
  · rw [List.getElem?_append_left hl] at h; exact .inl h
  · rw [List.getElem?_append_right hl] at h
    have h0 : i - l.length = 0 := by
      rcases Nat.eq_zero_or_pos (i - l.length) with h' | h'
      · exact h'
      · obtain ⟨k, hk⟩ : ∃ k, i - l.length = k + 1 := ⟨_, (Nat.succ_pred_eq_of_pos h').symm⟩
        rw [hk] at h; simp at h
    rw [h0] at h
    simp at h
    exact .inr ⟨by omega, h.symm⟩

theorem lt_some {α : Type} {l : List α} {i : Nat} {x : α} (h : l[i]? = some x) : i < l.length := (List.getElem?_eq_some_iff.1 h).1

/-- The sender's side stays where of the sender nothing of it turns. -/
theorem Dir.of_eqS {s s' o : Cn} {r : List Rec} (d : Dir s o r) (h1 : s'.nsend = s.nsend) (h2 : s'.hd.packets = s.hd.packets) (h3 : s'.heads = s.heads) : Dir s' o r :=
  ⟨h1 ▸ d.ns, h2 ▸ d.pk, by rw [h3]; exact d.hp, d.rl, d.an, d.gd, d.ha, d.J, d.K, d.amt⟩

/-- The receiver's side: its answers and headers stay; it may close. -/
theorem Dir.of_eqO {s o o' : Cn} {r : List Rec} (d : Dir s o r) (h1 : o'.hd.answers = o.hd.answers) (h2 : o'.heads = o.heads) (h3 : o.hd.opn = false → o'.hd.opn = false) (h4 : o'.hd.height = o.hd.height) (h5 : o'.hd.time = o.hd.time) : Dir s o' r :=
  ⟨d.ns, d.pk, d.hp, h1 ▸ d.rl, by rw [h1]; exact d.an, by rw [h1]; exact d.gd, by rw [h1, h2]; exact d.ha, by rw [h1, h2]; exact d.J, fun i x hx hp hl => by
    rw [h1] at hl; rw [h4, h5]
    exact (d.K i x hx hp hl).imp h3 id, d.amt⟩

theorem Mono.of_eq {s s' : Cn} (m : Mono s) (h2 : s'.heads = s.heads) (h3 : s.hd.opn = false → s'.hd.opn = false) (h4 : s'.hd.height = s.hd.height) (h5 : s'.hd.time = s.hd.time) : Mono s' :=
  ⟨fun h hh => by rw [h2] at hh; have := m.mono h hh; rw [h4, h5]; exact ⟨this.1, this.2.1, fun e => h3 (this.2.2 e)⟩⟩

theorem Money.of_eq {T : Int} {s s' o : Cn} {rs ro : List Rec} (m : Money T s o rs ro) (h1 : s'.has = s.has) (h2 : s'.locked = s.locked) (h3 : s'.about = s.about) (h4 : s'.n = s.n) : Money T s' o rs ro := by
  have hs : ∀ X, hasSum s' X = hasSum s X := fun X => by unfold hasSum; rw [h1]
  exact ⟨fun u X => by rw [h1]; exact m.pos u X, fun X hX => by rw [hs]; exact m.tot X hX, by rw [h2, h4, hs]; exact m.lockS, by rw [h3, h4, hs]; exact m.abtS, m.lockO, m.abtO⟩

variable {T : Int} {s o : Cn} {rs ro : List Rec}

/-- Nothing turns but that an end may close, or another header is known. -/
theorem link_shut {s' : Cn} (l : Link T s o rs ro) (h1 : s'.nsend = s.nsend) (h2 : s'.hd.packets = s.hd.packets) (h3 : s'.heads = s.heads) (h4 : s'.hd.answers = s.hd.answers) (h5 : s.hd.opn = false → s'.hd.opn = false) (h6 : s'.hd.height = s.hd.height) (h7 : s'.hd.time = s.hd.time)
    (h8 : s'.has = s.has) (h9 : s'.locked = s.locked) (h10 : s'.about = s.about) (h11 : s'.n = s.n) : Link T s' o rs ro :=
  ⟨l.ds.of_eqS h1 h2 h3, l.dr.of_eqO h4 h3 h5 h6 h7, l.ms.of_eq h3 h5 h6 h7, l.mo, by rw [h11]; exact l.n, l.mon.of_eq h8 h9 h10 h11⟩

theorem link_tick {B : Nat} (l : Link T s o rs ro) (ok : Ok B s) (hB : B < 100000000) (n : Int) (hn : 0 ≤ n) (ht : n ≤ 18446744073709551615 - s.hd.time) :
    Link T (commit { s with hd := { s.hd with time := wu (s.hd.time + n), height := wu (s.hd.height + 1) } }) o rs ro := by
  have h1 := ok.hd.time
  have h2 := ok.hd.height
  have w1 : wu (s.hd.time + n) = s.hd.time + n := wu_id (by omega)
  have w2 : wu (s.hd.height + 1) = s.hd.height + 1 := wu_id (by omega)
  rw [w1, w2]
  refine ⟨⟨l.ds.ns, l.ds.pk, ?_, l.ds.rl, l.ds.an, l.ds.gd, l.ds.ha, l.ds.J, l.ds.K, l.ds.amt⟩, ⟨l.dr.ns, l.dr.pk, l.dr.hp, l.dr.rl, l.dr.an, l.dr.gd, ?_, ?_, ?_, l.dr.amt⟩, ⟨?_⟩, l.mo, l.n, l.mon.of_eq rfl rfl rfl rfl⟩
  · intro h hh q hq
    rcases List.mem_append.1 hh with e | e
    · exact l.ds.hp h e q hq
    · rw [List.mem_singleton.1 e] at hq
      have hq' : q ∈ s.hd.packets := hq
      rw [l.ds.pk] at hq'
      obtain ⟨j, x, e1, _, e3⟩ := pendL_mem hq'
      exact ⟨j, x, e1, by rw [e3, Nat.zero_add]⟩
  · intro h hh
    rcases List.mem_append.1 hh with e | e
    · exact l.dr.ha h e
    · rw [List.mem_singleton.1 e]; exact ⟨[], by simp [commit]⟩
  · intro h hh i x hx hl hi
    rcases List.mem_append.1 hh with e | e
    · exact l.dr.J h e i x hx hl hi
    · rw [List.mem_singleton.1 e] at hl
      have hl' : s.hd.answers.length ≤ i := hl
      have hi' : i < s.hd.answers.length := hi
      omega
  · intro i x hx hp hl
    exact (l.dr.K i x hx hp hl).imp id fun d => due_mono d (by show s.hd.height ≤ s.hd.height + 1; omega) (by show s.hd.time ≤ s.hd.time + n; omega)
  · intro h hh
    rcases List.mem_append.1 hh with e | e
    · have := l.ms.mono h e
      exact ⟨by show _ ≤ s.hd.height + 1; omega, by show _ ≤ s.hd.time + n; omega, this.2.2⟩
    · rw [List.mem_singleton.1 e]; exact ⟨Int.le_refl _, Int.le_refl _, id⟩

/-- What was sent is entered. -/
def recOf (p : Pk) : Rec := ⟨p, 0, true⟩

theorem under_pos (h : ∀ x ∈ rs, 0 < x.p.amount ∧ (0 ≤ x.p.frm ∧ x.p.frm < 3) ∧ (x.p.coin = 0 ∨ x.p.coin = 1)) (X : Int) : 0 ≤ under X rs := under_nonneg X rs fun x hx => by have := h x hx; omega

theorem link_send {B : Nat} (hT : T < 1000000) (l : Link T s o rs ro) (ok : Ok B s) (hB : B < 100000000) (p : Pk) (ha : 0 ≤ p.amount) (he : (send s p).2.2 = 0) :
    (send s p).2.1 = rs.length + 1 ∧ Link T (send s p).1 o (rs ++ [recOf p]) ro := by
  unfold send at he ⊢
  split at he
  · cases he
  split at he
  · cases he
  split at he
  · cases he
  split at he
  · cases he
  split at he
  · cases he
  split at he
  · cases he
  rename_i h1 h2 h3 h4 h5 h6
  rw [if_neg h1, if_neg h2, if_neg h3, if_neg h4, if_neg h5, if_neg h6]
  refine ⟨l.ds.ns, ?_⟩
  have hns := ok.nsend
  have hu : 0 ≤ p.frm ∧ p.frm < 3 := by have : isUser p.frm = true := by simpa using h2
                                        simpa [isUser] using this
  have hc : p.coin = 0 ∨ p.coin = 1 := by omega
  have hps := fun u X => (l.mon.pos u X).1
  have hpo := fun u X => (l.mon.pos u X).2
  have hle := has_le hps (X := p.coin) hu
  have t := l.mon.tot p.coin hc
  have r1 := under_pos l.ds.amt p.coin
  have r2 := under_pos l.dr.amt p.coin
  have o0 := hasSum_nonneg hpo p.coin
  have s0 := hasSum_nonneg hps
  have hb : wu (s.has p.frm p.coin - p.amount) = s.has p.frm p.coin - p.amount := wu_id (by omega)
  have hwn : wu (s.nsend + 1) = s.nsend + 1 := wu_id (by omega)
  have hwt : ∀ X, under X (rs ++ [recOf p]) = under X rs + (if X = p.coin then p.amount else 0) := fun X => by
    rw [under_snoc]; congr 1
    unfold wt recOf
    by_cases h : X = p.coin
    · rw [if_pos h, if_pos ⟨h.symm, rfl, by show (0 : Int) ≠ 1; decide⟩]
    · rw [if_neg h, if_neg (fun e => h e.1.symm)]
  rw [hb, hwn]
  refine ⟨⟨?_, ?_, ?_, ?_, ?_, ?_, l.ds.ha, ?_, ?_, ?_⟩, l.dr.of_eqO rfl rfl id rfl rfl, l.ms.of_eq rfl id rfl rfl, l.mo, l.n, ?_⟩
  · show s.nsend + 1 = ((rs ++ [recOf p]).length : Int) + 1
    rw [l.ds.ns, List.length_append]; simp
  · show s.hd.packets ++ [{ p with seq := s.nsend }] = pendL (rs ++ [recOf p]) 0
    rw [pendL_snoc, l.ds.pk, l.ds.ns]; simp [recOf]
  · intro h hh q hq
    obtain ⟨i, x, e1, e2⟩ := l.ds.hp h hh q hq
    exact ⟨i, x, by rw [List.getElem?_append_left (lt_some e1)]; exact e1, e2⟩
  · show o.hd.answers.length ≤ (rs ++ [recOf p]).length
    rw [List.length_append]; have := l.ds.rl; omega
  · intro i x hx
    rcases get_snoc hx with e | ⟨rfl, rfl⟩
    · exact l.ds.an i x e
    · rw [if_neg (by have := l.ds.rl; omega)]; rfl
  · intro i x a hx hA
    rcases get_snoc hx with e | ⟨rfl, rfl⟩
    · exact l.ds.gd i x a e hA
    · have := lt_some hA; have := l.ds.rl; omega
  · intro h hh i x hx hl hi
    rcases get_snoc hx with e | ⟨rfl, rfl⟩
    · exact l.ds.J h hh i x e hl hi
    · have := l.ds.rl; omega
  · intro i x hx hp hl
    rcases get_snoc hx with e | ⟨rfl, rfl⟩
    · exact l.ds.K i x e hp hl
    · cases hp
  · intro x hx
    rcases List.mem_append.1 hx with e | e
    · exact l.ds.amt x e
    · rw [List.mem_singleton.1 e]; exact ⟨by show 0 < p.amount; omega, hu, hc⟩
  · have hs := fun (f : Cn) (hf : f.has = setHas s.has p.frm p.coin (s.has p.frm p.coin - p.amount)) X => hasSum_set s p.frm p.coin (s.has p.frm p.coin - p.amount) X hu f hf
    have lS := l.mon.lockS; have aS := l.mon.abtS
    refine ⟨fun u X => ⟨?_, hpo u X⟩, fun X hX => ?_, ?_, ?_, l.mon.lockO, l.mon.abtO⟩
    · show 0 ≤ setHas s.has p.frm p.coin _ u X
      unfold setHas; split
      · omega
      · exact hps u X
    · rw [hs _ rfl X, hwt X]
      have := l.mon.tot X hX
      split
      · rename_i h; subst h; omega
      · omega
    · rw [hs _ rfl]
      show (if p.coin = s.n then wu (s.locked + p.amount) else s.locked) + _ = T
      have hn := s0 s.n
      by_cases h : p.coin = s.n
      · rw [if_pos h, if_pos h.symm]
        have e1 : hasSum s s.n = hasSum s p.coin := by rw [h]
        rw [e1] at lS
        rw [← h, wu_id (by omega)]; omega
      · rw [if_neg h, if_neg (fun e => h e.symm)]; exact lS
    · rw [hs _ rfl]
      show (if p.coin = s.n then s.about else wu (s.about - p.amount)) = (if 1 - s.n = p.coin then hasSum s (1 - s.n) - s.has p.frm p.coin + (s.has p.frm p.coin - p.amount) else hasSum s (1 - s.n))
      by_cases h : p.coin = s.n
      · rw [if_pos h, if_neg (by have := l.n; omega)]; exact aS
      · have h2 : p.coin = 1 - s.n := by
          rcases l.n with ⟨e, _⟩ | ⟨e, _⟩ <;> rcases hc with e' | e' <;> rw [e, e'] at h ⊢ <;> simp at h ⊢
        rw [if_neg h, if_pos h2.symm, aS, ← h2, wu_id (by omega)]; omega


/-! ### a packet is received -/

abbrev answ (x : Rec) : Rec := { x with ans := if isUser x.p.to = true then 1 else 2 }

theorem due_seq (p : Pk) (q h t : Int) : due { p with seq := q } h t = due p h t := rfl

theorem link_recv {B : Nat} (hT : T < 1000000) (l : Link T s o rs ro) (ok : Ok B s) (hB : B < 100000000) (q : Int) {kn : Hd} (hk : kn ∈ o.heads) (he : (recv s q kn).2 = 0) :
    ∃ x, ro[s.hd.answers.length]? = some x ∧ q = s.hd.answers.length + 1 ∧ x.pend = true ∧ x.ans = 0 ∧ Link T (recv s q kn).1 o rs (updR answ ro s.hd.answers.length) := by
  have hnr := ok.hd.nrecv
  unfold recv at he ⊢
  split at he
  · cases he
  rename_i h1
  split at he
  · cases he
  rename_i h2
  rw [if_neg h1, if_neg h2]
  split at he
  · cases he
  rename_i i p hf
  split at he
  · cases he
  rename_i h4
  rw [if_neg h4]
  dsimp only
  have hq : q = s.hd.nrecv := by simpa using h2
  obtain ⟨_, hg, _, hps⟩ := find_get hf
  obtain ⟨j, x, e1, e2⟩ := l.dr.hp kn hk p (List.mem_of_getElem? hg)
  have hj : j = s.hd.answers.length := by
    have : p.seq = (j : Int) + 1 := by rw [e2]
    omega
  subst hj
  have hdue : due x.p s.hd.height s.hd.time = false := by
    rw [e2, due_seq] at h4; simpa using h4
  have hop : s.hd.opn = true := by simpa using h1
  have hpend : x.pend = true := by
    cases hp : x.pend with
    | true => rfl
    | false =>
      rcases l.dr.K _ x e1 hp (Nat.le_refl _) with e | e
      · rw [hop] at e; cases e
      · rw [hdue] at e; cases e
  have hans : x.ans = 0 := by rw [l.dr.an _ x e1, if_neg (Nat.lt_irrefl _)]
  refine ⟨x, e1, by omega, hpend, hans, ?_⟩
  have hxm := l.dr.amt x (List.mem_of_getElem? e1)
  have hto : p.to = x.p.to := by rw [e2]
  have hco : p.coin = x.p.coin := by rw [e2]
  have ham : p.amount = x.p.amount := by rw [e2]
  have hw : wu (s.hd.nrecv + 1) = s.hd.nrecv + 1 := wu_id (by have := ok.hd.recvB; omega)
  have hget : ∀ {i y}, (updR answ ro s.hd.answers.length)[i]? = some y → ∃ z, ro[i]? = some z ∧ y.p = z.p ∧ y.pend = z.pend ∧ y.ans = (if i = s.hd.answers.length then (if isUser z.p.to = true then 1 else 2) else z.ans) := by
    intro i y hy
    rw [updR_get] at hy
    split at hy
    · rename_i hi
      subst hi
      rw [e1] at hy
      simp at hy
      exact ⟨x, e1, by rw [← hy], by rw [← hy], by rw [← hy, if_pos rfl]⟩
    · rename_i hi
      exact ⟨y, hy, rfl, rfl, by rw [if_neg hi]⟩
  -- the sender's side
  have dr : ∀ s' : Cn, s'.hd.answers = s.hd.answers ++ [⟨q, isUser p.to⟩] → s'.heads = s.heads → s'.hd.opn = s.hd.opn → s'.hd.height = s.hd.height → s'.hd.time = s.hd.time → Dir o s' (updR answ ro s.hd.answers.length) := by
    intro s' a1 a2 a3 a4 a5
    have al : s'.hd.answers.length = s.hd.answers.length + 1 := by rw [a1]; simp
    refine ⟨by rw [updR_len]; exact l.dr.ns, by rw [pendL_upd (f := answ) (fun _ => ⟨rfl, rfl⟩)]; exact l.dr.pk, ?_, ?_, ?_, ?_, ?_, ?_, ?_, ?_⟩
    · intro h hh r hr
      obtain ⟨i, y, f1, f2⟩ := l.dr.hp h hh r hr
      have : (updR answ ro s.hd.answers.length)[i]? = some (if i = s.hd.answers.length then answ y else y) := by
        rw [updR_get]
        split
        · rw [f1]; rfl
        · exact f1
      refine ⟨i, _, this, ?_⟩
      rw [f2]; split <;> rfl
    · rw [al, updR_len]
      exact lt_some e1
    · intro i y hy
      obtain ⟨z, z1, z2, _, z4⟩ := hget hy
      rw [z4, z2, al]
      have := l.dr.an i z z1
      by_cases hi : i = s.hd.answers.length
      · rw [if_pos hi, if_pos (show i < s.hd.answers.length + 1 by omega)]
      · rw [if_neg hi, this]
        by_cases h' : i < s.hd.answers.length
        · rw [if_pos h', if_pos (show i < s.hd.answers.length + 1 by omega)]
        · rw [if_neg h', if_neg (show ¬ i < s.hd.answers.length + 1 by omega)]
    · intro i y a hy hA
      obtain ⟨z, z1, z2, _, _⟩ := hget hy
      rw [a1] at hA
      rcases get_snoc hA with e | ⟨rfl, rfl⟩
      · rw [z2]; exact l.dr.gd i z a z1 e
      · rw [e1] at z1; cases z1
        rw [z2, ← hto]
    · intro h hh
      rw [a2] at hh
      obtain ⟨t, ht⟩ := l.dr.ha h hh
      exact ⟨t ++ [⟨q, isUser p.to⟩], by rw [a1, ht, List.append_assoc]⟩
    · intro h hh i y hy hl hi
      rw [a2] at hh
      obtain ⟨z, z1, z2, _, _⟩ := hget hy
      rw [z2]
      rw [al] at hi
      by_cases hii : i = s.hd.answers.length
      · subst hii
        rw [e1] at z1; cases z1
        have hm := l.ms.mono h hh
        refine ⟨?_, ?_⟩
        · cases hd : due x.p h.height h.time with
          | false => rfl
          | true => rw [due_mono hd hm.1 hm.2.1] at hdue; cases hdue
        · cases ho : h.opn with
          | true => rfl
          | false => rw [hm.2.2 ho] at hop; cases hop
      · exact l.dr.J h hh i z z1 hl (by omega)
    · intro i y hy hp hl
      obtain ⟨z, z1, z2, z3, _⟩ := hget hy
      rw [z2, a3, a4, a5]
      rw [al] at hl
      exact l.dr.K i z z1 (by rw [← z3]; exact hp) (by omega)
    · intro y hy
      obtain ⟨i, hi, hy'⟩ := List.getElem_of_mem hy
      obtain ⟨z, z1, z2, _, _⟩ := hget (i := i) (y := y) (by rw [List.getElem?_eq_getElem hi, hy'])
      rw [z2]; exact l.dr.amt z (List.mem_of_getElem? z1)
  have hwt : ∀ X, under X (updR answ ro s.hd.answers.length) = under X ro - (if X = x.p.coin then (if isUser x.p.to = true then x.p.amount else 0) else 0) := by
    intro X
    rw [under_upd X answ ro _ x e1]
    have w1 : wt X x = if X = x.p.coin then x.p.amount else 0 := by
      unfold wt
      by_cases h : X = x.p.coin
      · rw [if_pos h, if_pos ⟨h.symm, hpend, by rw [hans]; decide⟩]
      · rw [if_neg h, if_neg (fun e => h e.1.symm)]
    have w2 : wt X (answ x) = if X = x.p.coin then (if isUser x.p.to = true then 0 else x.p.amount) else 0 := by
      unfold wt
      by_cases h : X = x.p.coin
      · rw [if_pos h]
        by_cases hu : isUser x.p.to = true
        · rw [if_pos hu, if_neg]; rintro ⟨_, _, e⟩; exact e (by show (if isUser x.p.to = true then (1 : Int) else 2) = 1; rw [if_pos hu])
        · rw [if_neg hu, if_pos]; exact ⟨h.symm, hpend, by show (if isUser x.p.to = true then (1 : Int) else 2) ≠ 1; rw [if_neg hu]; decide⟩
      · rw [if_neg h, if_neg (fun e => h e.1.symm)]
    rw [w1, w2]
    split
    · split <;> omega
    · omega
  have hup : ∀ X, 0 ≤ under X (updR answ ro s.hd.answers.length) := fun X => under_nonneg X _ fun y hy => by
    obtain ⟨i, hi, hy'⟩ := List.getElem_of_mem hy
    obtain ⟨z, z1, z2, _, _⟩ := hget (i := i) (y := y) (by rw [List.getElem?_eq_getElem hi, hy'])
    rw [z2]; have := l.dr.amt z (List.mem_of_getElem? z1); omega
  by_cases hu : isUser p.to = true
  · rw [if_pos hu]
    refine ⟨l.ds.of_eqS rfl rfl rfl, dr _ rfl rfl rfl rfl rfl, l.ms.of_eq rfl id rfl rfl, l.mo, l.n, ?_⟩
    refine money_credit (u := p.to) (c := p.coin) (x := p.amount) hT l.mon l.n (by simpa [isUser] using hu) (by rw [hco]; exact hxm.2.2) (by rw [ham]; omega) (under_pos l.ds.amt) (under_pos l.dr.amt) (fun X => ⟨under_pos l.ds.amt X, hup X⟩) (fun X => ?_) rfl rfl rfl rfl
    rw [hwt X, hco, ham, ← hto, if_pos hu]; omega
  · rw [if_neg hu]
    refine ⟨l.ds.of_eqS rfl rfl rfl, dr _ rfl rfl rfl rfl rfl, l.ms.of_eq rfl id rfl rfl, l.mo, l.n, ?_⟩
    have m := l.mon
    refine ⟨m.pos, fun X hX => ?_, m.lockS, m.abtS, m.lockO, m.abtO⟩
    have := m.tot X hX
    rw [hwt X, ← hto, if_neg hu]
    show hasSum s X + hasSum o X + under X rs + _ = T
    split <;> omega

end Go.Br

namespace Go.Br
open Go

variable {T : Int} {s o : Cn} {rs ro : List Rec}

theorem unp_get {r : List Rec} {j i : Nat} {y : Rec} (hy : (updR unp r j)[i]? = some y) : ∃ z, r[i]? = some z ∧ y.p = z.p ∧ y.ans = z.ans ∧ y.pend = (if i = j then false else z.pend) := by
  rw [updR_get] at hy
  split at hy
  · rename_i hi
    cases hr : r[i]? with
    | none => rw [hr] at hy; cases hy
    | some z => rw [hr] at hy; simp at hy; exact ⟨z, rfl, by rw [← hy], by rw [← hy], by rw [← hy, if_pos hi]⟩
  · rename_i hi
    exact ⟨y, hy, rfl, rfl, by rw [if_neg hi]⟩

theorem Dir.unp {s' : Cn} {r : List Rec} (d : Dir s o r) {j : Nat} {x : Rec} (hx : r[j]? = some x) (h1 : s'.nsend = s.nsend) (h2 : s'.hd.packets = pendL (updR unp r j) 0) (h3 : s'.heads = s.heads)
    (hK : o.hd.answers.length ≤ j → o.hd.opn = false ∨ due x.p o.hd.height o.hd.time = true) : Dir s' o (updR Go.Br.unp r j) := by
  refine ⟨by rw [h1, updR_len]; exact d.ns, h2, ?_, by rw [updR_len]; exact d.rl, ?_, ?_, d.ha, ?_, ?_, ?_⟩
  · intro h hh q hq
    rw [h3] at hh
    obtain ⟨i, y, f1, f2⟩ := d.hp h hh q hq
    have : (updR Go.Br.unp r j)[i]? = some (if i = j then Go.Br.unp y else y) := by
      rw [updR_get]
      split
      · rw [f1]; rfl
      · exact f1
    refine ⟨i, _, this, ?_⟩
    rw [f2]; split <;> rfl
  · intro i y hy
    obtain ⟨z, z1, z2, z3, _⟩ := unp_get hy
    rw [z3, z2]; exact d.an i z z1
  · intro i y a hy hA
    obtain ⟨z, z1, z2, _, _⟩ := unp_get hy
    rw [z2]; exact d.gd i z a z1 hA
  · intro h hh i y hy hl hi
    obtain ⟨z, z1, z2, _, _⟩ := unp_get hy
    rw [z2]; exact d.J h hh i z z1 hl hi
  · intro i y hy hp hl
    obtain ⟨z, z1, z2, _, z4⟩ := unp_get hy
    rw [z2]
    by_cases hi : i = j
    · subst hi
      rw [hx] at z1; cases z1
      exact hK hl
    · rw [if_neg hi] at z4
      exact d.K i z z1 (by rw [← z4]; exact hp) hl
  · intro y hy
    obtain ⟨i, hi, hy'⟩ := List.getElem_of_mem hy
    obtain ⟨z, z1, z2, _, _⟩ := unp_get (i := i) (y := y) (by rw [List.getElem?_eq_getElem hi, hy'])
    rw [z2]; exact d.amt z (List.mem_of_getElem? z1)

theorem under_unp {r : List Rec} {j : Nat} {x : Rec} (hx : r[j]? = some x) (hp : x.pend = true) (X : Int) : under X (updR unp r j) = under X r - (if X = x.p.coin then (if x.ans ≠ 1 then x.p.amount else 0) else 0) := by
  rw [under_upd X unp r j x hx]
  have w2 : wt X (unp x) = 0 := by unfold wt; rw [if_neg]; rintro ⟨_, e, _⟩; cases e
  rw [w2]
  unfold wt
  by_cases h : X = x.p.coin
  · by_cases ha : x.ans = 1
    · rw [if_neg (by rintro ⟨_, _, e⟩; exact e ha), if_pos h, if_neg (by simpa using ha)]; omega
    · rw [if_pos ⟨h.symm, hp, ha⟩, if_pos h, if_pos ha]; omega
  · rw [if_neg (fun e => h e.1.symm), if_neg h]; omega

theorem under_unp_pos {r : List Rec} (j : Nat) (h : ∀ x ∈ r, 0 < x.p.amount ∧ (0 ≤ x.p.frm ∧ x.p.frm < 3) ∧ (x.p.coin = 0 ∨ x.p.coin = 1)) (X : Int) : 0 ≤ under X (updR unp r j) := under_nonneg X _ fun y hy => by
  obtain ⟨i, hi, hy'⟩ := List.getElem_of_mem hy
  obtain ⟨z, z1, z2, _, _⟩ := unp_get (i := i) (y := y) (by rw [List.getElem?_eq_getElem hi, hy'])
  rw [z2]; have := h z (List.mem_of_getElem? z1); omega

theorem findA_mem {q : Int} : ∀ {l : List Ans} {a : Ans}, findA l q = some a → ∃ i : Nat, l[i]? = some a ∧ a.seq = q
  | [], _, h => by cases h
  | x :: l, a, h => by
    simp only [findA] at h
    split at h
    · cases h; exact ⟨0, rfl, by assumption⟩
    · obtain ⟨i, h1, h2⟩ := findA_mem h
      exact ⟨i + 1, by simpa using h1, h2⟩

theorem link_ack {B : Nat} (hT : T < 1000000) (l : Link T s o rs ro) (q : Int) {kn : Hd} (hk : kn ∈ o.heads) (okk : OkHd B kn) (he : (ack s q kn).2 = 0) :
    ∃ (j : Nat) (x : Rec), rs[j]? = some x ∧ q = (j : Int) + 1 ∧ x.pend = true ∧ x.ans ≠ 0 ∧ (∀ j' y, j' < j → rs[j']? = some y → y.pend = false) ∧ Link T (ack s q kn).1 o (updR unp rs j) ro := by
  unfold ack at he ⊢
  split at he
  · cases he
  rename_i i p hf
  split at he
  · cases he
  rename_i hi0
  rw [if_neg hi0]
  split at he
  · cases he
  rename_i a hA
  dsimp only
  rw [l.ds.pk] at hf
  obtain ⟨j, x, h1, h2, h3, h4, _, h6, h7⟩ := find_pend hf
  have hi : i = 0 := by omega
  subst hi
  rw [Nat.zero_add] at h3 h4
  obtain ⟨k, k1, k2⟩ := findA_mem hA
  have hkj : k = j := by have := okk.answers k a k1; omega
  subst hkj
  obtain ⟨t, ht⟩ := l.ds.ha kn hk
  have ho : o.hd.answers[k]? = some a := by rw [ht, List.getElem?_append_left (lt_some k1)]; exact k1
  have hlt := lt_some ho
  have han := l.ds.an k x h1
  rw [if_pos hlt] at han
  have hg := l.ds.gd k x a h1 ho
  have hxm := l.ds.amt x (List.mem_of_getElem? h1)
  have hd := fun (s' : Cn) e1 e2 e3 => Dir.unp (s' := s') l.ds h1 e1 e2 e3 (fun hl => absurd hlt (by omega))
  have hpk : s.hd.packets.eraseIdx 0 = pendL (updR unp rs k) 0 := by rw [l.ds.pk]; simpa using h6
  refine ⟨k, x, h1, h3, h2, by rw [han]; split <;> decide, h7 rfl, ?_⟩
  have hfr : p.frm = x.p.frm := by rw [h4]
  have hco : p.coin = x.p.coin := by rw [h4]
  have ham : p.amount = x.p.amount := by rw [h4]
  by_cases hgd : a.good = true
  · rw [if_pos hgd]
    refine ⟨hd _ rfl hpk rfl, l.dr.of_eqO rfl rfl id rfl rfl, l.ms.of_eq rfl id rfl rfl, l.mo, l.n, ?_⟩
    have m := l.mon
    refine ⟨m.pos, fun X hX => ?_, m.lockS, m.abtS, m.lockO, m.abtO⟩
    have := m.tot X hX
    rw [under_unp h1 h2 X]
    have h11 : x.ans = 1 := by rw [han, ← hg, if_pos hgd]
    rw [if_neg (show ¬ x.ans ≠ 1 by simpa using h11)]
    show hasSum s X + hasSum o X + _ + _ = T
    split <;> omega
  · rw [if_neg hgd]
    have h12 : x.ans ≠ 1 := by rw [han, ← hg, if_neg hgd]; decide
    refine ⟨hd _ rfl hpk rfl, l.dr.of_eqO rfl rfl id rfl rfl, l.ms.of_eq rfl id rfl rfl, l.mo, l.n, ?_⟩
    refine money_credit (u := p.frm) (c := p.coin) (x := p.amount) hT l.mon l.n (by rw [hfr]; exact hxm.2.1) (by rw [hco]; exact hxm.2.2) (by rw [ham]; omega) (under_pos l.ds.amt) (under_pos l.dr.amt) (fun X => ⟨under_unp_pos _ l.ds.amt X, under_pos l.dr.amt X⟩) (fun X => ?_) rfl rfl rfl rfl
    rw [under_unp h1 h2 X, if_pos h12, hco, ham]; omega

theorem link_back {B : Nat} (hT : T < 1000000) (l : Link T s o rs ro) (q : Int) {kn : Hd} (cl : Bool) (hk : kn ∈ o.heads) (okk : OkHd B kn) (he : (back s q kn cl).2 = 0) :
    ∃ (j : Nat) (x : Rec), rs[j]? = some x ∧ q = (j : Int) + 1 ∧ x.pend = true ∧ x.ans = 0 ∧ (back s q kn cl).1.hd.opn = false ∧ Link T (back s q kn cl).1 o (updR unp rs j) ro := by
  unfold back at he ⊢
  split at he
  · cases he
  rename_i i p hf
  split at he
  · cases he
  rename_i c1
  split at he
  · cases he
  rename_i c2
  rw [if_neg c1, if_neg c2]
  dsimp only
  rw [l.ds.pk] at hf
  obtain ⟨j, x, h1, h2, h3, h4, _, h6, _⟩ := find_pend hf
  rw [Nat.zero_add] at h3 h4
  have hdp : ∀ h t, due p h t = due x.p h t := fun h t => by rw [h4]; rfl
  have hnr := okk.nrecv
  have hkl : kn.answers.length ≤ j := by omega
  have hmo := l.mo.mono kn hk
  have hwhy : (cl = true ∧ kn.opn = false) ∨ (cl = false ∧ due x.p kn.height kn.time = true) := by
    cases cl with
    | true => left; refine ⟨rfl, ?_⟩; cases h : kn.opn with
      | false => rfl
      | true => exact absurd ⟨rfl, h⟩ c1
    | false => right; refine ⟨rfl, ?_⟩; rw [← hdp]; cases h : due p kn.height kn.time with
      | true => rfl
      | false => exact absurd (.inl ⟨rfl, h⟩) c2
  have hR : o.hd.answers.length ≤ j := by
    rcases Nat.lt_or_ge j o.hd.answers.length with hl | hl
    · exfalso
      obtain ⟨j1, j2⟩ := l.ds.J kn hk j x h1 hkl hl
      rcases hwhy with ⟨_, e⟩ | ⟨_, e⟩
      · rw [j2] at e; cases e
      · rw [j1] at e; cases e
    · exact hl
  have hans : x.ans = 0 := by rw [l.ds.an j x h1, if_neg (by omega)]
  have hxm := l.ds.amt x (List.mem_of_getElem? h1)
  have hfr : p.frm = x.p.frm := by rw [h4]
  have hco : p.coin = x.p.coin := by rw [h4]
  have ham : p.amount = x.p.amount := by rw [h4]
  have hpk : s.hd.packets.eraseIdx i = pendL (updR unp rs j) 0 := by rw [l.ds.pk]; simpa using h6
  refine ⟨j, x, h1, h3, h2, hans, rfl, ?_⟩
  refine ⟨Dir.unp l.ds h1 rfl hpk rfl (fun _ => ?_), l.dr.of_eqO rfl rfl (fun _ => rfl) rfl rfl, l.ms.of_eq rfl (fun _ => rfl) rfl rfl, l.mo, l.n, ?_⟩
  · rcases hwhy with ⟨_, e⟩ | ⟨_, e⟩
    · exact .inl (hmo.2.2 e)
    · exact .inr (due_mono e hmo.1 hmo.2.1)
  · refine money_credit (u := p.frm) (c := p.coin) (x := p.amount) hT l.mon l.n (by rw [hfr]; exact hxm.2.1) (by rw [hco]; exact hxm.2.2) (by rw [ham]; omega) (under_pos l.ds.amt) (under_pos l.dr.amt) (fun X => ⟨under_unp_pos _ l.ds.amt X, under_pos l.dr.amt X⟩) (fun X => ?_) rfl rfl rfl rfl
    rw [under_unp h1 h2 X, if_pos (show x.ans ≠ 1 by rw [hans]; decide), hco, ham]; omega


/-! ### all steps -/

/-- What is entered behind a step: own: what the chain has sent; oth: what the other has. -/
def tookR (x : Stp) (own oth : List Rec) : List Rec × List Rec :=
  if x.kind = 1 then (own ++ [recOf x.p], oth)
  else if x.kind = 4 then (own, updR answ oth (x.n - 1).toNat)
  else if x.kind = 5 ∨ x.kind = 6 ∨ x.kind = 7 then (updR unp own (x.n - 1).toNat, oth)
  else (own, oth)

structure TookOk (x : Stp) (n : Int) (own oth : List Rec) (opn : Bool) : Prop where
  send : x.kind = 1 → n = own.length + 1
  recv : x.kind = 4 → ∃ (j : Nat) (y : Rec), oth[j]? = some y ∧ x.n = (j : Int) + 1 ∧ y.pend = true ∧ y.ans = 0 ∧ ∀ z, 0 < j → oth[j - 1]? = some z → z.ans ≠ 0
  ack : x.kind = 5 → ∃ (j : Nat) (y : Rec), own[j]? = some y ∧ x.n = (j : Int) + 1 ∧ y.pend = true ∧ y.ans ≠ 0 ∧ ∀ j' z, j' < j → own[j']? = some z → z.pend = false
  back : x.kind = 6 ∨ x.kind = 7 → ∃ (j : Nat) (y : Rec), own[j]? = some y ∧ x.n = (j : Int) + 1 ∧ y.pend = true ∧ y.ans = 0 ∧ opn = false

theorem kn_mem {s o : Cn} (h : s.known < o.heads.length) : knOf s o ∈ o.heads := by
  unfold knOf
  rw [List.getD_eq_getElem?_getD, List.getElem?_eq_getElem h]
  exact List.getElem_mem h

theorem step_err {s : Cn} {x : Stp} {kn : Hd} {nh : Nat} (he : (step s x kn nh).2.2 ≠ 0) : (step s x kn nh).1 = s ∧ (step s x kn nh).2.1 = 0 := by
  unfold step at he ⊢
  split
  · rename_i h1
    rw [if_pos h1] at he
    unfold send at he ⊢
    repeat' (first | exact ⟨rfl, rfl⟩ | (split; · exact ⟨rfl, rfl⟩) | (exfalso; revert he; simp_all; done))
    all_goals (exfalso; apply he; simp_all)
  rename_i h1
  rw [if_neg h1] at he
  split
  · rename_i h2
    rw [if_pos h2] at he
    split
    · exact ⟨rfl, rfl⟩
    · rename_i h; rw [if_neg h] at he; exact absurd rfl he
  rename_i h2
  rw [if_neg h2] at he
  split
  · rename_i h3
    rw [if_pos h3] at he
    split
    · exact ⟨rfl, rfl⟩
    · rename_i h; rw [if_neg h] at he; exact absurd rfl he
  rename_i h3
  rw [if_neg h3] at he
  split
  · rename_i h4
    rw [if_pos h4] at he
    split
    · exact ⟨rfl, rfl⟩
    · rename_i h; rw [if_neg h] at he; exact absurd rfl he
  rename_i h4
  rw [if_neg h4] at he
  split
  · rename_i h5
    rw [if_pos h5] at he
    split
    · exact ⟨rfl, rfl⟩
    · rename_i h; rw [if_neg h] at he
      split
      · exact ⟨rfl, rfl⟩
      · rename_i h'; rw [if_neg h'] at he; exact absurd rfl he
  rename_i h5
  rw [if_neg h5] at he
  have hr : ∀ q, (Go.Br.recv s q kn).2 ≠ 0 → (Go.Br.recv s q kn).1 = s := fun q h => by
    unfold Go.Br.recv at h ⊢
    split
    · rfl
    · split
      · rfl
      · split
        · rfl
        · split
          · rfl
          · simp_all
  have ha : ∀ q, (Go.Br.ack s q kn).2 ≠ 0 → (Go.Br.ack s q kn).1 = s := fun q h => by
    unfold Go.Br.ack at h ⊢
    split
    · rfl
    · split
      · rfl
      · split
        · rfl
        · simp_all
  have hb : ∀ q cl, (Go.Br.back s q kn cl).2 ≠ 0 → (Go.Br.back s q kn cl).1 = s := fun q cl h => by
    unfold Go.Br.back at h ⊢
    split
    · rfl
    · split
      · rfl
      · split
        · rfl
        · simp_all
  split
  · rename_i h6; rw [if_pos h6] at he; exact ⟨hr _ he, rfl⟩
  rename_i h6
  rw [if_neg h6] at he
  split
  · rename_i h7; rw [if_pos h7] at he; exact ⟨ha _ he, rfl⟩
  rename_i h7
  rw [if_neg h7] at he
  split
  · rename_i h8; rw [if_pos h8] at he; exact ⟨hb _ _ he, rfl⟩
  rename_i h8
  rw [if_neg h8] at he
  split
  · rename_i h9; rw [if_pos h9] at he; exact ⟨hb _ _ he, rfl⟩
  exact ⟨rfl, rfl⟩

end Go.Br

namespace Go.Br
open Go

variable {T : Int} {s o : Cn} {rs ro : List Rec}

theorem step_link {B : Nat} (hT : T < 1000000) (l : Link T s o rs ro) (oks : Ok B s) (oko : Ok B o) (hB : B < 100000000) (hk : s.known < o.heads.length) (x : Stp) (hx : 0 ≤ x.n ∧ x.n < 18446744073709551616) (ha : 0 ≤ x.p.amount) (nh : Nat) (he : (step s x (knOf s o) nh).2.2 = 0) :
    TookOk x (step s x (knOf s o) nh).2.1 rs ro (step s x (knOf s o) nh).1.hd.opn ∧ Link T (step s x (knOf s o) nh).1 o (tookR x rs ro).1 (tookR x rs ro).2 := by
  have hkm := kn_mem hk
  obtain ⟨okk, _⟩ := knOf_ok (s := s) oko hk
  generalize knOf s o = kn at *
  by_cases k1 : x.kind = 1
  · have e : step s x kn nh = send s x.p := by unfold step; rw [if_pos k1]
    have er : tookR x rs ro = (rs ++ [recOf x.p], ro) := by unfold tookR; rw [if_pos k1]
    rw [e] at he ⊢
    rw [er]
    obtain ⟨h1, h2⟩ := link_send hT l oks hB x.p ha he
    exact ⟨⟨fun _ => h1, fun h => by omega, fun h => by omega, fun h => by omega⟩, h2⟩
  by_cases k4 : x.kind = 4
  · have e : step s x kn nh = ((recv s x.n kn).1, 0, (recv s x.n kn).2) := by unfold step; rw [if_neg k1, if_neg (by omega), if_neg (by omega), if_neg (by omega), if_neg (by omega), if_pos k4]
    rw [e] at he ⊢
    obtain ⟨y, h1, h2, h3, h4, h5⟩ := link_recv hT l oks hB x.n hkm he
    have er : tookR x rs ro = (rs, updR answ ro s.hd.answers.length) := by
      unfold tookR; rw [if_neg k1, if_pos k4, show (x.n - 1).toNat = s.hd.answers.length by omega]
    rw [er]
    refine ⟨⟨fun h => by omega, fun _ => ⟨_, y, h1, h2, h3, h4, fun z hz1 hz2 => ?_⟩, fun h => by omega, fun h => by omega⟩, h5⟩
    have := l.dr.an _ z hz2
    rw [this, if_pos (by omega)]
    split <;> decide
  by_cases k5 : x.kind = 5
  · have e : step s x kn nh = ((ack s x.n kn).1, 0, (ack s x.n kn).2) := by unfold step; rw [if_neg k1, if_neg (by omega), if_neg (by omega), if_neg (by omega), if_neg (by omega), if_neg k4, if_pos k5]
    rw [e] at he ⊢
    obtain ⟨j, y, h1, h2, h3, h4, h5, h6⟩ := link_ack hT l x.n hkm okk he
    have er : tookR x rs ro = (updR unp rs j, ro) := by
      unfold tookR; rw [if_neg k1, if_neg k4, if_pos (.inl k5), show (x.n - 1).toNat = j by omega]
    rw [er]
    exact ⟨⟨fun h => by omega, fun h => by omega, fun _ => ⟨j, y, h1, h2, h3, h4, h5⟩, fun h => by omega⟩, h6⟩
  by_cases k6 : x.kind = 6
  · have e : step s x kn nh = ((back s x.n kn false).1, 0, (back s x.n kn false).2) := by unfold step; rw [if_neg k1, if_neg (by omega), if_neg (by omega), if_neg (by omega), if_neg (by omega), if_neg k4, if_neg k5, if_pos k6]
    rw [e] at he ⊢
    obtain ⟨j, y, h1, h2, h3, h4, h5, h6⟩ := link_back hT l x.n false hkm okk he
    have er : tookR x rs ro = (updR unp rs j, ro) := by
      unfold tookR; rw [if_neg k1, if_neg k4, if_pos (.inr (.inl k6)), show (x.n - 1).toNat = j by omega]
    rw [er]
    exact ⟨⟨fun h => by omega, fun h => by omega, fun h => by omega, fun _ => ⟨j, y, h1, h2, h3, h4, h5⟩⟩, h6⟩
  by_cases k7 : x.kind = 7
  · have e : step s x kn nh = ((back s x.n kn true).1, 0, (back s x.n kn true).2) := by unfold step; rw [if_neg k1, if_neg (by omega), if_neg (by omega), if_neg (by omega), if_neg (by omega), if_neg k4, if_neg k5, if_neg k6, if_pos k7]
    rw [e] at he ⊢
    obtain ⟨j, y, h1, h2, h3, h4, h5, h6⟩ := link_back hT l x.n true hkm okk he
    have er : tookR x rs ro = (updR unp rs j, ro) := by
      unfold tookR; rw [if_neg k1, if_neg k4, if_pos (.inr (.inr k7)), show (x.n - 1).toNat = j by omega]
    rw [er]
    exact ⟨⟨fun h => by omega, fun h => by omega, fun h => by omega, fun _ => ⟨j, y, h1, h2, h3, h4, h5⟩⟩, h6⟩
  have er : tookR x rs ro = (rs, ro) := by unfold tookR; rw [if_neg k1, if_neg k4, if_neg (by omega)]
  rw [er]
  refine ⟨⟨fun h => absurd h k1, fun h => absurd h k4, fun h => absurd h k5, fun h => by omega⟩, ?_⟩
  unfold step at he ⊢
  rw [if_neg k1] at he ⊢
  split
  · rename_i k2
    rw [if_pos k2] at he
    split
    · rename_i h; rw [if_pos h] at he; cases he
    · exact link_tick l oks hB x.n hx.1 (by omega)
  rename_i k2
  rw [if_neg k2] at he
  split
  · rename_i k3
    rw [if_pos k3] at he
    split
    · exact l
    · exact link_shut l rfl rfl rfl rfl id rfl rfl rfl rfl rfl rfl
  rename_i k3
  rw [if_neg k3] at he
  split
  · split
    · exact l
    · exact link_shut l rfl rfl rfl rfl (fun _ => rfl) rfl rfl rfl rfl rfl rfl
  split
  · split
    · exact l
    · split
      · exact l
      · exact link_shut l rfl rfl rfl rfl (fun _ => rfl) rfl rfl rfl rfl rfl rfl
  exact l

/-- What locked coins are: about on the other chain, or under way. -/
theorem Link.kept (l : Link T s o rs ro) : (∀ X, (X = 0 ∨ X = 1) → hasSum s X + hasSum o X + under X rs + under X ro = T) ∧ s.locked = o.about + under s.n rs + under s.n ro ∧ o.locked = s.about + under o.n rs + under o.n ro := by
  have m := l.mon
  refine ⟨m.tot, ?_, ?_⟩
  · have h := m.lockS; have h2 := m.abtO
    rcases l.n with ⟨e1, e2⟩ | ⟨e1, e2⟩
    · have t := m.tot s.n (.inl e1)
      rw [show 1 - o.n = s.n by omega] at h2; omega
    · have t := m.tot s.n (.inr e1)
      rw [show 1 - o.n = s.n by omega] at h2; omega
  · have h := m.lockO; have h2 := m.abtS
    rcases l.n with ⟨e1, e2⟩ | ⟨e1, e2⟩
    · have t := m.tot o.n (.inr e2)
      rw [show 1 - s.n = o.n by omega] at h2; omega
    · have t := m.tot o.n (.inl e2)
      rw [show 1 - s.n = o.n by omega] at h2; omega

/-! the beginning -/

theorem link_new (co : Int) (hc : 0 ≤ co ∧ co < 300000) : Link (3 * co) (newCn 0 co) (newCn 1 co) [] [] := by
  have hd : ∀ n m, Dir (newCn n co) (newCn m co) [] := fun n m => by
    refine ⟨rfl, rfl, ?_, Nat.le_refl _, ?_, ?_, ?_, ?_, ?_, ?_⟩
    · intro h hh q hq
      rw [newCn_heads] at hh
      rw [List.mem_singleton.1 hh] at hq; cases hq
    · intro i x h; simp at h
    · intro i x a h; simp at h
    · intro h hh
      rw [newCn_heads] at hh
      rw [List.mem_singleton.1 hh]; exact ⟨[], rfl⟩
    · intro h hh i x hx; simp at hx
    · intro i x hx; simp at hx
    · intro x hx; cases hx
  have hm : ∀ n, Mono (newCn n co) := fun n => ⟨fun h hh => by
    rw [newCn_heads] at hh
    rw [List.mem_singleton.1 hh]; exact ⟨Int.le_refl _, Int.le_refl _, id⟩⟩
  have hh : ∀ n u X, (newCn n co).has u X = if isUser u = true ∧ X = n then co else 0 := fun _ _ _ => rfl
  have hs : ∀ n X, hasSum (newCn n co) X = if X = n then 3 * co else 0 := fun n X => by
    unfold hasSum
    rw [hh, hh, hh]
    by_cases h : X = n
    · rw [if_pos h, if_pos ⟨by decide, h⟩, if_pos ⟨by decide, h⟩, if_pos ⟨by decide, h⟩]; omega
    · rw [if_neg h, if_neg (fun e => h e.2), if_neg (fun e => h e.2), if_neg (fun e => h e.2)]; rfl
  refine ⟨hd 0 1, hd 1 0, hm 0, hm 1, .inl ⟨rfl, rfl⟩, ⟨fun u X => ⟨?_, ?_⟩, fun X hX => ?_, ?_, ?_, ?_, ?_⟩⟩
  · rw [hh]; split <;> omega
  · rw [hh]; split <;> omega
  · rw [hs, hs]
    show _ + _ + (0 : Int) + 0 = _
    rcases hX with rfl | rfl <;> simp
  · rw [show (newCn 0 co).n = 0 from rfl, hs]; show (0 : Int) + _ = _; simp
  · rw [show (newCn 0 co).n = 0 from rfl, hs]; show (0 : Int) = _; simp
  · rw [show (newCn 1 co).n = 1 from rfl, hs]; show (0 : Int) + _ = _; simp
  · rw [show (newCn 1 co).n = 1 from rfl, hs]; show (0 : Int) = _; simp

end Go.Br

namespace Go.Br
open Go Go.Lx Go.Proofs
set_option maxRecDepth 100000

abbrev rpC (x : Rec) : List Value := pkC x.p
theorem rpC_len : ∀ x, (rpC x).length = 7 := fun _ => rfl
abbrev raC (x : Rec) : List Value := [.int .i64 x.ans]
theorem raC_len : ∀ x, (raC x).length = 1 := fun _ => rfl
abbrev rqC (x : Rec) : List Value := [.bool x.pend]
theorem rqC_len : ∀ x, (rqC x).length = 1 := fun _ => rfl

structure KV where
  s0 : Value
  s1 : Value
  a0 : Value
  a1 : Value
  p0 : Value
  p1 : Value

abbrev kwCells (b : Nat) (v : KV) : List Value := [ptrV b, v.s0, v.s1, v.a0, v.a1, v.p0, v.p1]
abbrev kwC (w b : Nat) (v : KV) : Ch := .pt w true (.cells ⟨kwCells b v⟩ 46 (0, 0))
abbrev ksC (v : Value) (r : List Rec) : Ch := .pr (SlV 49 7 v (r.flatMap rpC) r.length)
abbrev kaC' (v : Value) (r : List Rec) : Ch := .pr (SlV 3 1 v (r.flatMap raC) r.length)
abbrev kpC' (v : Value) (r : List Rec) : Ch := .pr (SlV 4 1 v (r.flatMap rqC) r.length)

abbrev kwL (w b : Nat) (v : KV) (S : Bg) (r0 r1 : List Rec) (Γ : List Ch) : List Ch :=
  kwC w b v :: ksC v.s0 r0 :: ksC v.s1 r1 :: kaC' v.a0 r0 :: kaC' v.a1 r1 :: kpC' v.p0 r0 :: kpC' v.p1 r1 :: .pr (BgAt b S) :: Γ

/-- The world of the moves at a block. -/
def KwAt (w : Nat) (S : Bg) (r0 r1 : List Rec) : LH → Prop := fun h => ∃ z : Nat × KV, Star (kwL w z.1 z.2 S r0 r1 []) h

theorem kw_open {w : Nat} {S : Bg} {r0 r1 : List Rec} {Γ : List Ch} : ∀ h, Star (.pr (KwAt w S r0 r1) :: Γ) h → ∃ z : Nat × KV, True ∧ Star (kwL w z.1 z.2 S r0 r1 Γ) h := fun h st => by
  obtain ⟨z, st⟩ := Star.ex.1 st
  exact ⟨z, trivial, Star.open_.1 st⟩

theorem kw_fold {w b : Nat} {v : KV} {S : Bg} {r0 r1 : List Rec} {Γ : List Ch} : EntR (.pr (KwAt w S r0 r1) :: Γ) (kwL w b v S r0 r1 Γ) := Ent.star fun h st => Star.ex.2 ⟨(b, v), Star.open_.2 st⟩

/-- All that is known of a world of moves. -/
structure KOk (B : Nat) (S : Bg) (r0 r1 : List Rec) : Prop where
  ok : BgOk B S
  link : Link 3000 S.s0 S.s1 r0 r1

theorem KOk.len {B : Nat} {S : Bg} {r0 r1 : List Rec} (k : KOk B S r0 r1) : r0.length ≤ B ∧ r1.length ≤ B := by
  have h0 := k.link.ds.ns; have h1 := k.link.dr.ns
  have n0 := k.ok.ok0.nsend; have n1 := k.ok.ok1.nsend
  omega

theorem under_take (X : Int) : ∀ (r : List Rec) (i : Nat) (h : i < r.length), under X (r.take (i + 1)) = under X (r.take i) + wt X r[i]
  | [], _, h => by cases h
  | x :: r, 0, _ => by simp [under]
  | x :: r, i + 1, h => by
    have := under_take X r i (by simpa using h)
    simp only [List.take_succ_cons, under, List.getElem_cons_succ]; omega

theorem under_take_le (X : Int) (r : List Rec) (h : ∀ x ∈ r, 0 ≤ x.p.amount) (i : Nat) : 0 ≤ under X (r.take i) ∧ under X (r.take i) ≤ under X r := by
  refine ⟨under_nonneg X _ fun x hx => h x (List.mem_of_mem_take hx), ?_⟩
  have : ∀ (a b : List Rec), under X (a ++ b) = under X a + under X b := fun a b => by
    induction a with
    | nil => simp [under]
    | cons x a ih => simp only [List.cons_append, under, ih]; omega
  have e := this (r.take i) (r.drop i)
  rw [List.take_append_drop] at e
  have := under_nonneg X (r.drop i) fun x hx => h x (List.mem_of_mem_drop hx)
  omega

theorem wt_cases (X : Int) (x : Rec) (h1 : x.p.coin = X) (h2 : x.pend = true) (h3 : ¬ x.ans = 1) : wt X x = x.p.amount := by unfold wt; rw [if_pos ⟨h1, h2, h3⟩]
theorem wt_zero1 (X : Int) (x : Rec) (h1 : ¬ x.p.coin = X) : wt X x = 0 := by unfold wt; rw [if_neg (fun e => h1 e.1)]
theorem wt_zero2 (X : Int) (x : Rec) (h1 : x.pend = false) : wt X x = 0 := by unfold wt; rw [if_neg (fun e => by rw [h1] at e; cases e.2.1)]
theorem wt_zero3 (X : Int) (x : Rec) (h1 : x.ans = 1) : wt X x = 0 := by unfold wt; rw [if_neg (fun e => e.2.2 h1)]

end Go.Br
