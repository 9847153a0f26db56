/-
  THE LOGIC, TENTH PART: range over a map.
-/
import Derived.Test.YtedaknlacigbhaaLxI
namespace Go.Lx
open Go

section
variable {P : Program} {X : Tgt} {b : Base} {n : Nat} {dr : Bool} {ops : Array Oper} {lo : Nat} {ex : List Nat} {fl : Floats} {E : Env} {rem : List Oper} {k : List Item} {cs : List Frame} {Γ : List Ch}
variable {d : Nat} {T : TypeId} {pos : String} {af : Array Edge} {gd : Option (Nat × Bool)}

theorem rg_range {t K el : TypeId} {x : Operand} {m ck : Nat} {es : List MapEntry} {p : Bool} [u : Under P t (.map K el)] (hx : Env.val E x = some (.map (some m))) [fd : Find Γ m p (.map ⟨es⟩ ck)]
    (e : ∀ r, Rg P X b n dr ops (lo + 1) ex fl ((d, .pointer (some ⟨r, 0, none⟩)) :: E) rem k cs (.pt r true (.mapIter (some m) ck ⟨[]⟩ ck) :: Γ))
    (hdn : d < n := by decide) (hex : NotYet ex lo := trivial) (hg : GuardOK ops ⟨some d, .range t x, T, pos, af, gd⟩ E := by first | exact trivial | exact ⟨_, rfl, rfl⟩)
    (hc : dr = false ∨ chkLast ops lo ex = true := by first | exact .inl rfl | exact .inr (by decide +kernel))
    (hr : ∀ r, dr = false ∨ Reval ops ex lo fl (.pt r true (.mapIter (some m) ck ⟨[]⟩ ck) :: Γ) := by first | exact fun _ => .inl rfl | exact fun _ => .inr (by (repeat' first | exact trivial | refine ⟨.inr ⟨_, _, _, _, Find.mem, rfl⟩, ?_⟩ | refine ⟨.inr ⟨_, _, _, _, Find.mem, inferInstance⟩, ?_⟩ | refine ⟨.inr ⟨_, Find.mem⟩, ?_⟩ | refine ⟨.inl (by decide +kernel), ?_⟩))) :
    Rg P X b n dr ops lo ex fl E (⟨some d, .range t x, T, pos, af, gd⟩ :: rem) k cs Γ := by
  refine rg_loud (φ := fun v Γ' => ∃ r, v = .pointer (some ⟨r, 0, none⟩) ∧ Γ' = .pt r true (.mapIter (some m) ck ⟨[]⟩ ck) :: Γ) (fun d' e => by cases e; exact hdn) hex hg hc ?_ ?_
  · refine does_of_wp rfl fun ρ h hρ st => ?_
    have h1 := hρ x (by simp [Op.operands]) _ hx
    have hm := Star.mem fd.mem st
    simp only [execOp, wpE_bind', h1, Instr.range, wpE_underlying u.eq]
    refine wpE_getObj hm rfl ?_
    simp only [newObj, wpE, wpE_pure]
    intro r hr'
    exact ⟨_, _, rfl, ⟨r, rfl, rfl⟩, st.new hr'⟩
  · rintro v Γ' ⟨r, rfl, rfl⟩
    exact ⟨hr r, e r⟩

/-- What a step of a range over a map that is not turned meanwhile may give. -/
def NextOf (m ck : Nat) (es : List MapEntry) (seen : List Nat) (f : Obj → List Ch) (v : Value) (Γ' : List Ch) : Prop :=
  (v = .tuple #[.bool false] ∧ Γ' = f (.mapIter (some m) ck ⟨seen⟩ ck) ∧ ∀ e ∈ es, e.born ∈ seen) ∨
  (∃ e, e ∈ es ∧ e.born ∉ seen ∧ v = .tuple #[.bool true, e.key, e.val] ∧ Γ' = f (.mapIter (some m) ck ⟨seen ++ [e.born]⟩ ck))

theorem does_next {x : Operand} {r m ck : Nat} {es : List MapEntry} {seen : List Nat} {p : Bool} {f : Obj → List Ch} {dst : Option Tmp} (hx : Env.val E x = some (.pointer (some ⟨r, 0, none⟩))) [rp : Repl Γ r (.mapIter (some m) ck ⟨seen⟩ ck) f] [fd : Find Γ m p (.map ⟨es⟩ ck)] (hb : ∀ e ∈ es, e.born < ck) :
    Does P ⟨dst, .next x false, T, pos, af, gd⟩ E Γ (NextOf m ck es seen f) := by
  refine does_of_wp rfl fun ρ h hρ st => ?_
  have h1 := hρ x (by simp [Op.operands]) _ hx
  have hm := Star.mem fd.mem st
  obtain ⟨Δ, p1, p2⟩ := rp.perm
  have st' := st.perm p1
  have hi := Star.mem (List.mem_cons_self ..) st'
  have hst : Star (f (.mapIter (some m) ck ⟨seen⟩ ck)) h := st'.perm (p2 _)
  simp only [execOp, wpE_bind', h1, Instr.next]
  refine wpE_getObj hi rfl ?_
  simp only [wpE_bind']
  refine wpE_getObj hm rfl ?_
  have hnew : (es.filter fun e => !seen.contains e.born).filter (fun e => decide (ck ≤ e.born)) = [] := by
    rw [List.filter_eq_nil_iff]
    intro e he
    have := hb e (List.mem_filter.1 he).1
    simp; omega
  have hold : (es.filter fun e => !seen.contains e.born).filter (fun e => decide (e.born < ck)) = es.filter fun e => !seen.contains e.born := by
    rw [List.filter_eq_self]
    intro e he
    have := hb e (List.mem_filter.1 he).1
    simpa using this
  have hchk : (!(⟨seen⟩ : Array Nat).isEmpty && !(⟨es⟩ : Array MapEntry).isEmpty && (⟨es⟩ : Array MapEntry).all fun x => decide (x.born ≥ ck)) = false := by
    cases es with
    | nil => simp
    | cons e es =>
      have := hb e (List.mem_cons_self ..)
      simp; intro _ h; omega
  dsimp only []
  rw [hchk]
  simp only [Bool.false_eq_true, if_false, wpE_bind']
  have a1 : (Array.filter (fun e => !(⟨seen⟩ : Array Nat).contains e.born) (⟨es⟩ : Array MapEntry)) = ⟨es.filter fun e => !seen.contains e.born⟩ := by simp
  rw [a1]
  generalize hL : (es.filter fun e => !seen.contains e.born) = L at *
  have a2 : (Array.filter (fun x => decide (x.born < ck)) (⟨L⟩ : Array MapEntry)) = ⟨L⟩ := by simpa using hold
  have a3 : (Array.filter (fun x => decide (x.born ≥ ck)) (⟨L⟩ : Array MapEntry)) = ⟨[]⟩ := by simpa using hnew
  rw [a2, a3]
  have a4 : Array.map some ((⟨L⟩ : Array MapEntry) ++ (⟨[]⟩ : Array MapEntry)) = ⟨L.map some⟩ := by simp
  rw [a4]
  cases hL' : L with
  | nil =>
    simp only [List.isEmpty_toArray, List.isEmpty_nil, if_true, List.map_nil]
    intro c hc
    have hc0 : c = 0 := by
      have : (Question.mapNext ((#[none] : Array (Option MapEntry)) ++ ⟨[]⟩).size).forced = true := by decide
      rw [if_pos this] at hc; exact hc
    subst hc0
    refine ⟨_, _, rfl, .inl ⟨rfl, rfl, fun e he => ?_⟩, hst⟩
    have h0 : e ∉ L := by rw [hL']; simp
    rw [← hL] at h0
    simpa [he] using h0
  | cons e0 L0 =>
    simp only [List.isEmpty_toArray, List.isEmpty_cons, Bool.false_eq_true, if_false]
    intro c hc
    have hc0 : c < (e0 :: L0).length := by
      have hsz : ((#[] : Array (Option MapEntry)) ++ ⟨(e0 :: L0).map some⟩).size = (e0 :: L0).length := by simp
      rw [hsz] at hc
      split at hc
      · subst hc; simp
      · obtain ⟨t, rfl⟩ := hc
        exact Nat.mod_lt _ (by simp)
    have hget : ((#[] : Array (Option MapEntry)) ++ ⟨(e0 :: L0).map some⟩)[c]? = some (some (e0 :: L0)[c]) := by
      have h0 : (#[] : Array (Option MapEntry)) ++ ⟨(e0 :: L0).map some⟩ = ⟨(e0 :: L0).map some⟩ := by simp
      rw [h0, List.getElem?_toArray, List.getElem?_map, List.getElem?_eq_getElem hc0]; rfl
    simp only [wpE_pure']
    rw [hget]
    have hin : (e0 :: L0)[c] ∈ es.filter fun e => !seen.contains e.born := by rw [hL, hL']; exact List.getElem_mem _
    have hin' := List.mem_filter.1 hin
    simp only [wpE_bind']
    refine wpE_setObj hi rfl ?_
    simp only [wpE_pure]
    refine ⟨_, _, rfl, .inr ⟨(e0 :: L0)[c], hin'.1, by simpa using hin'.2, rfl, rfl⟩, ?_⟩
    have := (st'.put (o' := .mapIter (some m) ck ⟨seen ++ [(e0 :: L0)[c].born]⟩ ck)).perm (p2 _)
    simpa using this

theorem rg_next {x : Operand} {r m ck : Nat} {es : List MapEntry} {seen : List Nat} {p : Bool} {f : Obj → List Ch} (hx : Env.val E x = some (.pointer (some ⟨r, 0, none⟩))) [rp : Repl Γ r (.mapIter (some m) ck ⟨seen⟩ ck) f] [fd : Find Γ m p (.map ⟨es⟩ ck)] (hb : ∀ e ∈ es, e.born < ck)
    (e0 : (∀ e ∈ es, e.born ∈ seen) → Rg P X b n dr ops (lo + 1) ex fl ((d, .tuple #[.bool false]) :: E) rem k cs (f (.mapIter (some m) ck ⟨seen⟩ ck)))
    (e1 : ∀ e ∈ es, e.born ∉ seen → Rg P X b n dr ops (lo + 1) ex fl ((d, .tuple #[.bool true, e.key, e.val]) :: E) rem k cs (f (.mapIter (some m) ck ⟨seen ++ [e.born]⟩ ck)))
    (hdr : dr = false := by rfl) (hdn : d < n := by decide) (hex : NotYet ex lo := trivial) (hg : GuardOK ops ⟨some d, .next x false, T, pos, af, gd⟩ E := by first | exact trivial | exact ⟨_, rfl, rfl⟩) :
    Rg P X b n dr ops lo ex fl E (⟨some d, .next x false, T, pos, af, gd⟩ :: rem) k cs Γ := by
  refine rg_loud (fun d' e => by cases e; exact hdn) hex hg (.inl hdr) (does_next hx hb) ?_
  rintro v Γ' (⟨rfl, rfl, h⟩ | ⟨e, he, hs, rfl, rfl⟩)
  · exact ⟨.inl hdr, e0 h⟩
  · exact ⟨.inl hdr, e1 e he hs⟩

theorem rg_entry {x : Operand} {r m ck st0 : Nat} {es : List MapEntry} {seen : List Nat} {p p' : Bool} {e' : MapEntry} (hx : Env.val E x = some (.pointer (some ⟨r, 0, none⟩))) [fi : Find Γ r p' (.mapIter (some m) ck ⟨seen ++ [st0]⟩ ck)] [fd : Find Γ m p (.map ⟨es⟩ ck)] (hf : es.find? (fun e => e.born == st0) = some e')
    (e : Rg P X b n dr ops (lo + 1) ex fl ((d, .tuple #[e'.key, e'.val]) :: E) rem k cs Γ)
    (hdr : dr = false := by rfl) (hdn : d < n := by decide) (hex : NotYet ex lo := trivial) (hg : GuardOK ops ⟨some d, .entry x, T, pos, af, gd⟩ E := by first | exact trivial | exact ⟨_, rfl, rfl⟩) :
    Rg P X b n dr ops lo ex fl E (⟨some d, .entry x, T, pos, af, gd⟩ :: rem) k cs Γ := by
  refine rg_loud (φ := fun v Γ' => v = .tuple #[e'.key, e'.val] ∧ Γ' = Γ) (fun d' e => by cases e; exact hdn) hex hg (.inl hdr) ?_ ?_
  · refine does_of_wp rfl fun ρ h hρ st => ?_
    have h1 := hρ x (by simp [Op.operands]) _ hx
    have hm := Star.mem fd.mem st
    have hi := Star.mem fi.mem st
    simp only [execOp, wpE_bind', h1, Instr.entry]
    refine wpE_getObj hi rfl ?_
    have hback : (⟨seen ++ [st0]⟩ : Array Nat).back? = some st0 := by simp
    have hfind : (⟨es⟩ : Array MapEntry).find? (fun e => e.born == st0) = some e' := by simpa using hf
    dsimp only []
    rw [hback]
    simp only [wpE_bind']
    refine wpE_getObj hm rfl ?_
    simp only [bne_self_eq_false, Bool.false_eq_true, if_false, hfind]
    simp only [wpE_pure]
    exact ⟨_, _, rfl, ⟨rfl, rfl⟩, st⟩
  · rintro v Γ' ⟨rfl, rfl⟩
    exact ⟨.inl hdr, e⟩

/-- Of entries whose births differ, the one that is searched by its birth. -/
theorem find_born {es : List MapEntry} (hp : es.Pairwise (fun x y => x.born ≠ y.born)) {e : MapEntry} (he : e ∈ es) : es.find? (fun x => x.born == e.born) = some e := by
  induction es with
  | nil => cases he
  | cons a l ih =>
    rw [List.pairwise_cons] at hp
    rcases List.mem_cons.1 he with rfl | he
    · simp
    · rw [List.find?_cons_of_neg, ih hp.2 he]
      simpa using hp.1 e he

/-- How many entries a range has not come to. -/
def left (es : List MapEntry) (seen : List Nat) : Nat := (es.filter fun e => !seen.contains e.born).length

theorem left_lt {es : List MapEntry} {seen : List Nat} {e : MapEntry} (he : e ∈ es) (hs : e.born ∉ seen) : left es (seen ++ [e.born]) < left es seen := by
  unfold left
  have hle : ∀ l : List MapEntry, (l.filter fun x => !(seen ++ [e.born]).contains x.born).length ≤ (l.filter fun x => !seen.contains x.born).length := by
    intro l
    induction l with
    | nil => exact Nat.le_refl _
    | cons a l ih =>
      simp only [List.filter_cons]
      by_cases h1 : a.born ∈ seen
      · simp [h1]; simpa using ih
      · by_cases h2 : a.born = e.born
        · simp [h2, hs]; have := ih; simp at this; omega
        · simp [h1, h2]; simpa using ih
  induction es with
  | nil => cases he
  | cons a l ih =>
    simp only [List.filter_cons]
    rcases List.mem_cons.1 he with rfl | he
    · simp [hs]; have := hle l; simp at this; omega
    · have := ih he
      by_cases h1 : a.born ∈ seen
      · simp [h1]; simpa using this
      · by_cases h2 : a.born = e.born
        · simp [h2, hs]; simp at this; omega
        · simp [h1, h2]; simpa using this

/-- What is done again and again: from a state that stands for i, by all lesser ones. -/
theorem ex_ind {ι : Type} (m : ι → Nat) (E' : ι → Env) (Γ' : ι → List Ch) (φ : ι → Prop) (i0 : ι) (h0 : φ i0) (s0 : Sup E (E' i0)) (g0 : Γ = Γ' i0)
    (step : ∀ i, φ i → (∀ j, φ j → m j < m i → Ex P X b n (E' j) k cs (Γ' j)) → Ex P X b n (E' i) k cs (Γ' i)) : Ex P X b n E k cs Γ := by
  have all : ∀ N i, m i < N → φ i → Ex P X b n (E' i) k cs (Γ' i) := by
    intro N
    induction N with
    | zero => intro i h; exact absurd h (Nat.not_lt_zero _)
    | succ N ih => intro i h hi; exact step i hi fun j hj hl => ih j (by omega) hj
  subst g0
  exact Ex.sup (all _ i0 (Nat.lt_succ_self _) h0) s0

end
end Go.Lx
