/-
  THE LOGIC, SIXTH PART: rules for builtins, maps, literals, slices.
-/
import Derived.Test.YtedaknlacigbhaaLxE
namespace Go.Lx
open Go

section
variable {P : Program} {h : LH}

theorem wpE_getObj {r : Nat} {p : Bool} {o : Obj} {Q : Obj → LH → Prop} (hr : h r = some (p, o)) (hc : isCells o = false) (q : Q o h) : wpE P (getObj r) Q h := ⟨p, o, hr, hc, q⟩
theorem wpE_setObj {r : Nat} {o o0 : Obj} {Q : Unit → LH → Prop} (hr : h r = some (true, o0)) (hc : isCells o0 = false) (q : Q () (h.put r o)) : wpE P (setObj r o) Q h := ⟨o0, hr, hc, q⟩

/-- The key may be a key. -/
structure KeyOK (P : Program) (K : TypeId) (key : Value) : Prop where
  check : ∀ (b : Bool) (h : LH) (Q : Unit → LH → Prop), Q () h → wpE P (Instr.checkKey b 10000 K key) Q h
  same : Instr.sameBits 10000 key key = true

/-- What a search for the key among the entries finds. -/
def FindK (P : Program) (K : TypeId) (key : Value) (es : List MapEntry) (r : Option (Nat × Value)) : Prop :=
  ∀ (h : LH) (Q : Option (Nat × Value) → LH → Prop), Q r h → wpE P (Instr.findKey K key es) Q h

theorem keyOK_int {K : TypeId} {kk : IntKind} {a : Int} [u : Under P K (.int kk)] : KeyOK P K (.int kk a) where
  check := fun b h Q q => by
    unfold Instr.checkKey
    rw [wpE_bind', wpE_underlying u.eq]
    exact q
  same := by simp [Instr.sameBits]

/-- Entries with keys of one kind of integers. -/
def ient (kk : IntKind) (x : Int × Value × Nat) : MapEntry := ⟨.int kk x.1, x.2.1, x.2.2⟩

def findI : List (Int × Value × Nat) → Int → Nat → Option (Nat × Value)
  | [], _, _ => none
  | x :: l, k, i => if k = x.1 then some (i, x.2.1) else findI l k (i + 1)

theorem findNow_int {kk kk' : IntKind} (k : Int) : ∀ (l : List (Int × Value × Nat)) (i : Nat), Instr.findNow (.int kk') (.int kk k) (l.map (ient kk)) i = some (findI l k i) := by
  intro l
  induction l with
  | nil => intro i; rfl
  | cons x l ih =>
    intro i
    simp only [List.map_cons, Instr.findNow, ient, Instr.sameNow, if_true, findI]
    by_cases hk : k = x.1
    · simp [hk]
    · have : (k == x.1) = false := by simpa using hk
      simp only [this, hk, if_false]
      exact ih (i + 1)

theorem findK_int {K : TypeId} {kk : IntKind} [u : Under P K (.int kk)] (k : Int) (l : List (Int × Value × Nat)) : FindK P K (.int kk k) (l.map (ient kk)) (findI l k 0) := fun h Q q => by
  unfold Instr.findKey
  rw [wpE_bind', wpE_underlying u.eq, findNow_int]
  exact q

def HasObj (Γ : List Ch) (r : Nat) (o : Obj) : Prop := ∃ p, Ch.pt r p o ∈ Γ

/-- A search in the map of a block. -/
def HasKey (P : Program) (K : TypeId) (key z : Value) (Γ : List Ch) (r : Nat) (v : Value) (ok : Bool) : Prop :=
  ∃ p es ck res, Ch.pt r p (.map ⟨es⟩ ck) ∈ Γ ∧ FindK P K key es res ∧ (res.map (·.2)).getD z = v ∧ res.isSome = ok

theorem wpE_lookup {t K el : TypeId} {z key v : Value} {Γ : List Ch} {r : Nat} {ok ck : Bool} [u : Under P t (.map K el)] [zz : ZeroOf P el z] (hk : KeyOK P K key) (hc : HasKey P K key z Γ r v ok) (st : Star Γ h) {Q : Value → LH → Prop}
    (q : Q (if ck then .tuple #[v, .bool ok] else v) h) : wpE P (Instr.lookup t (.map (some r)) key ck) Q h := by
  obtain ⟨p, es, clk, res, m, hf, hv, hok⟩ := hc
  have hr := Star.mem m st
  obtain ⟨i, i1, i2⟩ := zz.eq
  unfold Instr.lookup
  rw [wpE_bind', wpE_underlying u.eq]
  simp only [wpE_bind']
  refine wpE_getObj hr rfl ?_
  simp only [wpE_pure, wpE_bind']
  refine hk.check _ _ _ (hf _ _ ?_)
  cases res with
  | none =>
    simp only [Option.map_none, Option.getD_none, Option.isSome_none] at hv hok
    subst hv; subst hok
    simp only [wpE_bind', wpE_zeroValue i1 i2, wpE_pure]
    exact q
  | some x =>
    simp only [Option.map_some, Option.getD_some, Option.isSome_some] at hv hok
    subst hv; subst hok
    simp only [wpE_pure]
    exact q

end

section
variable {P : Program} {X : Tgt} {b : Base} {n : Nat} {dr : Bool} {ops : Array Oper} {lo : Nat} {ex : List Nat} {fl : Floats} {E : Env} {rem : List Oper} {k : List Item} {cs : List Frame} {Γ : List Ch}
variable {d : Nat} {T : TypeId} {pos : String} {af : Array Edge} {gd : Option (Nat × Bool)}

/-! builtins that read -/

theorem wpE_builtin {o : Oper} {bi : Builtin} {args : Array Operand} {at' : Array TypeId} {ρ : Operand → Value} {h : LH} {Q : Next → LH → Prop} (ho : o.op = .call ⟨.builtin bi, args, at'⟩)
    (q : wpE P (builtin bi at' o.type (args.map fun | .const _ => true | _ => false) (args.map ρ)) Q h) : wpE P (execOp ρ o) Q h := by
  simp only [execOp, ho, resolve, wpE_bind', wpE_pure, invoke]
  exact q

theorem rg_lenSl {t el : TypeId} {x : Operand} {a : Option Addr} {m c : Nat} [u : Under P t (.slice el)] (hx : Env.val E x = some (.slice a m c)) (e : Rg P X b n dr ops (lo + 1) ex fl ((d, .int .i64 m) :: E) rem k cs Γ)
    (hdn : d < n := by decide) (hex : NotYet ex lo := trivial) (hg : GuardOK ops ⟨some d, .call ⟨.builtin .len, ⟨[x]⟩, ⟨[t]⟩⟩, T, pos, af, gd⟩ E := by first | exact trivial | exact ⟨_, rfl, rfl⟩) :
    Rg P X b n dr ops lo ex fl E (⟨some d, .call ⟨.builtin .len, ⟨[x]⟩, ⟨[t]⟩⟩, T, pos, af, gd⟩ :: rem) k cs Γ :=
  rg_pure rfl hdn hex rfl hg (fun _ ρ h hρ _ => by
    have h1 := hρ x (by simp [Op.operands, Call.operands]) _ hx
    refine wpE_builtin rfl ?_
    simp only [List.map_toArray, List.map_cons, List.map_nil, h1, builtin, Builtin.len_, wpE_bind', List.getElem?_toArray, List.getElem?_cons_zero, wpE_underlying u.eq, wpE_pure, goInt, nxv, and_self]) e

theorem rg_lenStr {t : TypeId} {x : Operand} {s : ByteArray} [u : Under P t .string] (hx : Env.val E x = some (.string s)) (e : Rg P X b n dr ops (lo + 1) ex fl ((d, .int .i64 s.size) :: E) rem k cs Γ)
    (hdn : d < n := by decide) (hex : NotYet ex lo := trivial) (hg : GuardOK ops ⟨some d, .call ⟨.builtin .len, ⟨[x]⟩, ⟨[t]⟩⟩, T, pos, af, gd⟩ E := by first | exact trivial | exact ⟨_, rfl, rfl⟩) :
    Rg P X b n dr ops lo ex fl E (⟨some d, .call ⟨.builtin .len, ⟨[x]⟩, ⟨[t]⟩⟩, T, pos, af, gd⟩ :: rem) k cs Γ :=
  rg_pure rfl hdn hex rfl hg (fun _ ρ h hρ _ => by
    have h1 := hρ x (by simp [Op.operands, Call.operands]) _ hx
    refine wpE_builtin rfl ?_
    simp only [List.map_toArray, List.map_cons, List.map_nil, h1, builtin, Builtin.len_, wpE_bind', List.getElem?_toArray, List.getElem?_cons_zero, wpE_underlying u.eq, wpE_pure, goInt, nxv, and_self]) e

theorem rg_lenMap {t K el : TypeId} {x : Operand} {r : Nat} {p : Bool} {es : List MapEntry} {ck : Nat} [u : Under P t (.map K el)] (hx : Env.val E x = some (.map (some r))) [f : Find Γ r p (.map ⟨es⟩ ck)]
    (e : Rg P X b n dr ops (lo + 1) ex ((lo, fun Δ => HasObj Δ r (.map ⟨es⟩ ck)) :: fl) ((d, .int .i64 es.length) :: E) rem k cs Γ)
    (hdn : d < n := by decide) (hex : NotYet ex lo := trivial) (hg : GuardOK ops ⟨some d, .call ⟨.builtin .len, ⟨[x]⟩, ⟨[t]⟩⟩, T, pos, af, gd⟩ E := by first | exact trivial | exact ⟨_, rfl, rfl⟩) :
    Rg P X b n dr ops lo ex fl E (⟨some d, .call ⟨.builtin .len, ⟨[x]⟩, ⟨[t]⟩⟩, T, pos, af, gd⟩ :: rem) k cs Γ :=
  rg_read _ rfl hdn hex rfl hg (fun Δ hc ρ h hρ st => by
    have h1 := hρ x (by simp [Op.operands, Call.operands]) _ hx
    obtain ⟨p, m⟩ := hc
    have hr := Star.mem m st
    refine wpE_builtin rfl ?_
    simp only [List.map_toArray, List.map_cons, List.map_nil, h1, builtin, Builtin.len_, wpE_bind', List.getElem?_toArray, List.getElem?_cons_zero, wpE_underlying u.eq, wpE_pure]
    refine wpE_getObj hr rfl ?_
    simp [goInt, nxv]) ⟨p, f.mem⟩ e

/-! maps -/

theorem rg_lookup {t K el : TypeId} {x y : Operand} {r : Nat} {p : Bool} {es : List MapEntry} {ck : Nat} {key z v : Value} [u : Under P t (.map K el)] [zz : ZeroOf P el z] (hx : Env.val E x = some (.map (some r))) (hy : Env.val E y = some key) (hk : KeyOK P K key)
    [f : Find Γ r p (.map ⟨es⟩ ck)] {res : Option (Nat × Value)} (hf : FindK P K key es res) (hv : (res.map (·.2)).getD z = v)
    (e : Rg P X b n dr ops (lo + 1) ex ((lo, fun Δ => ∃ ok, HasKey P K key z Δ r v ok) :: fl) ((d, v) :: E) rem k cs Γ)
    (hdn : d < n := by decide) (hex : NotYet ex lo := trivial) (hg : GuardOK ops ⟨some d, .lookup t x y false, T, pos, af, gd⟩ E := by first | exact trivial | exact ⟨_, rfl, rfl⟩) :
    Rg P X b n dr ops lo ex fl E (⟨some d, .lookup t x y false, T, pos, af, gd⟩ :: rem) k cs Γ :=
  rg_read _ rfl hdn hex rfl hg (fun Δ hc ρ h hρ st => by
    have h1 := hρ x (by simp [Op.operands]) _ hx
    have h2 := hρ y (by simp [Op.operands]) _ hy
    obtain ⟨ok, hc⟩ := hc
    simp only [execOp, wpE_bind', h1, h2]
    exact wpE_lookup hk hc st (by simp [nxv])) ⟨res.isSome, p, es, ck, res, f.mem, hf, hv, rfl⟩ e

theorem rg_lookup2 {t K el : TypeId} {x y : Operand} {r : Nat} {p : Bool} {es : List MapEntry} {ck : Nat} {key z v : Value} {ok : Bool} [u : Under P t (.map K el)] [zz : ZeroOf P el z] (hx : Env.val E x = some (.map (some r))) (hy : Env.val E y = some key) (hk : KeyOK P K key)
    [f : Find Γ r p (.map ⟨es⟩ ck)] {res : Option (Nat × Value)} (hf : FindK P K key es res) (hv : (res.map (·.2)).getD z = v) (hok : res.isSome = ok)
    (e : Rg P X b n dr ops (lo + 1) ex ((lo, fun Δ => HasKey P K key z Δ r v ok) :: fl) ((d, .tuple #[v, .bool ok]) :: E) rem k cs Γ)
    (hdn : d < n := by decide) (hex : NotYet ex lo := trivial) (hg : GuardOK ops ⟨some d, .lookup t x y true, T, pos, af, gd⟩ E := by first | exact trivial | exact ⟨_, rfl, rfl⟩) :
    Rg P X b n dr ops lo ex fl E (⟨some d, .lookup t x y true, T, pos, af, gd⟩ :: rem) k cs Γ :=
  rg_read _ rfl hdn hex rfl hg (fun Δ hc ρ h hρ st => by
    have h1 := hρ x (by simp [Op.operands]) _ hx
    have h2 := hρ y (by simp [Op.operands]) _ hy
    simp only [execOp, wpE_bind', h1, h2]
    exact wpE_lookup hk hc st (by simp [nxv])) ⟨p, es, ck, res, f.mem, hf, hv, hok⟩ e

/-- What a store under a key makes of the entries. -/
def updE (es : List MapEntry) (ck : Nat) (key v : Value) : Option (Nat × Value) → List MapEntry × Nat
  | some (i, _) => (es.modify i fun e => { e with key, val := v }, ck)
  | none => (es ++ [⟨key, v, ck⟩], ck + 1)

theorem wpE_mapUpdate {t K el : TypeId} {key v : Value} {h : LH} {r : Nat} {es : List MapEntry} {ck : Nat} {res : Option (Nat × Value)} [u : Under P t (.map K el)] (hk : KeyOK P K key) (hf : FindK P K key es res)
    (hsame : ∀ i w, res = some (i, w) → (es[i]?).map (·.key) = some key) (hr : h r = some (true, .map ⟨es⟩ ck)) {Q : Unit → LH → Prop} (q : Q () (h.put r (.map ⟨(updE es ck key v res).1⟩ (updE es ck key v res).2))) :
    wpE P (Instr.mapUpdate t (.map (some r)) key v) Q h := by
  unfold Instr.mapUpdate
  rw [wpE_bind', wpE_underlying u.eq]
  simp only [wpE_bind']
  refine wpE_getObj hr rfl ?_
  simp only [wpE_bind']
  refine hk.check _ _ _ (hf _ _ ?_)
  cases res with
  | none =>
    simp only []
    refine wpE_setObj hr rfl ?_
    simpa [updE] using q
  | some x =>
    obtain ⟨i, w⟩ := x
    have := hsame i w rfl
    simp only [wpE_bind', List.getElem?_toArray, this, Option.getD_some, Instr.keyThatStays, hk.same, if_true, wpE_pure]
    refine wpE_setObj hr rfl ?_
    simpa [updE] using q

theorem does_mapUpdate {t K el : TypeId} {x y w : Operand} {r : Nat} {es : List MapEntry} {ck : Nat} {key v : Value} {f : Obj → List Ch} {res : Option (Nat × Value)} {dst : Option Tmp} [u : Under P t (.map K el)] (hx : Env.val E x = some (.map (some r))) (hy : Env.val E y = some key)
    (hw : Env.val E w = some v) (hk : KeyOK P K key) (hf : FindK P K key es res) (hsame : ∀ i w, res = some (i, w) → (es[i]?).map (·.key) = some key) [rp : Repl Γ r (.map ⟨es⟩ ck) f] :
    Does P ⟨dst, .mapUpdate t x y w, T, pos, af, gd⟩ E Γ (fun a Γ' => a = undef ∧ Γ' = f (.map ⟨(updE es ck key v res).1⟩ (updE es ck key v res).2)) :=
  does_of_wp rfl fun ρ h hρ st => by
    have h1 := hρ x (by simp [Op.operands]) _ hx
    have h2 := hρ y (by simp [Op.operands]) _ hy
    have h3 := hρ w (by simp [Op.operands]) _ hw
    obtain ⟨Δ, p1, p2⟩ := rp.perm
    have st' := st.perm p1
    simp only [execOp, wpE_bind', h1, h2, h3]
    refine wpE_mapUpdate hk hf hsame (Star.mem (List.mem_cons_self ..) st') ⟨undef, _, rfl, ⟨rfl, rfl⟩, (st'.put).perm (p2 _)⟩

theorem rg_mapUpdate {t K el : TypeId} {x y w : Operand} {r : Nat} {es : List MapEntry} {ck : Nat} {key v : Value} {f : Obj → List Ch} {res : Option (Nat × Value)} [u : Under P t (.map K el)] (hx : Env.val E x = some (.map (some r))) (hy : Env.val E y = some key)
    (hw : Env.val E w = some v) (hk : KeyOK P K key) [rp : Repl Γ r (.map ⟨es⟩ ck) f] (hf : FindK P K key es res) (hsame : ∀ i w, res = some (i, w) → (es[i]?).map (·.key) = some key)
    (e : Rg P X b n dr ops (lo + 1) ex fl E rem k cs (f (.map ⟨(updE es ck key v res).1⟩ (updE es ck key v res).2)))
    (hex : NotYet ex lo := trivial) (hg : GuardOK ops ⟨none, .mapUpdate t x y w, T, pos, af, gd⟩ E := by first | exact trivial | exact ⟨_, rfl, rfl⟩)
    (hc : dr = false ∨ chkLast ops lo ex = true := by first | exact .inl rfl | exact .inr (by decide +kernel))
    (hr : dr = false ∨ Reval ops ex lo fl (f (.map ⟨(updE es ck key v res).1⟩ (updE es ck key v res).2)) := by first | exact .inl rfl | exact .inr (by (repeat' first | exact trivial | refine ⟨.inr ⟨_, _, _, _, Find.mem, rfl⟩, ?_⟩ | refine ⟨.inr ⟨_, _, _, _, Find.mem, inferInstance⟩, ?_⟩ | refine ⟨.inr ⟨_, Find.mem⟩, ?_⟩ | refine ⟨.inl (by decide +kernel), ?_⟩))) :
    Rg P X b n dr ops lo ex fl E (⟨none, .mapUpdate t x y w, T, pos, af, gd⟩ :: rem) k cs Γ := by
  refine rg_loud (fun d e => by cases e) hex hg hc (does_mapUpdate hx hy hw hk hf hsame) ?_
  rintro a Γ' ⟨rfl, rfl⟩
  exact ⟨hr, e⟩

/-- What 'm[key]' as a place makes of the entries: its stamp. -/
def entE (es : List MapEntry) (ck : Nat) (key z : Value) : Option (Nat × Value) → List MapEntry × Nat × Value × Nat
  | some (i, v) => (es, ck, v, ((es[i]?).map (·.born)).getD 0)
  | none => (es ++ [⟨key, z, ck⟩], ck + 1, z, ck)

theorem modify_key {es : List MapEntry} {i : Nat} {key : Value} (h : (es[i]?).map (·.key) = some key) : es.modify i (fun e => { e with key }) = es := by
  apply List.ext_getElem?
  intro j
  rw [List.getElem?_modify]
  by_cases hij : i = j
  · subst hij
    cases he : es[i]? with
    | none => simp
    | some e => rw [he] at h; cases h; simp
  · simp [hij]

theorem rg_mapEntry {t K el : TypeId} {x y : Operand} {r : Nat} {es : List MapEntry} {ck : Nat} {key z : Value} {f : Obj → List Ch} {res : Option (Nat × Value)} [u : Under P t (.map K el)] [zz : ZeroOf P el z] (hx : Env.val E x = some (.map (some r))) (hy : Env.val E y = some key)
    (hk : KeyOK P K key) [rp : Repl Γ r (.map ⟨es⟩ ck) f] (hf : FindK P K key es res) (hsame : ∀ i w, res = some (i, w) → (es[i]?).map (·.key) = some key)
    (hr : dr = false ∨ Reval ops ex lo fl (f (.map ⟨(entE es ck key z res).1⟩ (entE es ck key z res).2.1)))
    (e : Rg P X b n dr ops (lo + 1) ex fl ((d, .tuple #[(entE es ck key z res).2.2.1, .int .i64 (entE es ck key z res).2.2.2]) :: E) rem k cs (f (.map ⟨(entE es ck key z res).1⟩ (entE es ck key z res).2.1)))
    (hdn : d < n := by decide) (hex : NotYet ex lo := trivial) (hg : GuardOK ops ⟨some d, .mapEntry t x y, T, pos, af, gd⟩ E := by first | exact trivial | exact ⟨_, rfl, rfl⟩)
    (hc : dr = false ∨ chkLast ops lo ex = true := by first | exact .inl rfl | exact .inr (by decide +kernel)) :
    Rg P X b n dr ops lo ex fl E (⟨some d, .mapEntry t x y, T, pos, af, gd⟩ :: rem) k cs Γ := by
  refine rg_loud (φ := fun a Γ' => a = .tuple #[(entE es ck key z res).2.2.1, .int .i64 (entE es ck key z res).2.2.2] ∧ Γ' = f (.map ⟨(entE es ck key z res).1⟩ (entE es ck key z res).2.1)) (fun d e => by cases e; exact hdn) hex hg hc ?_ ?_
  · refine does_of_wp rfl fun ρ h hρ st => ?_
    have h1 := hρ x (by simp [Op.operands]) _ hx
    have h2 := hρ y (by simp [Op.operands]) _ hy
    obtain ⟨Δ, p1, p2⟩ := rp.perm
    have st' := st.perm p1
    have hm := Star.mem (List.mem_cons_self ..) st'
    obtain ⟨i, i1, i2⟩ := zz.eq
    simp only [execOp, wpE_bind', h1, h2, Instr.mapEntry, wpE_underlying u.eq]
    refine wpE_getObj hm rfl ?_
    simp only [wpE_bind']
    refine hk.check _ _ _ (hf _ _ ?_)
    cases res with
    | none =>
      simp only [wpE_bind', wpE_zeroValue i1 i2]
      refine wpE_setObj hm rfl ?_
      simp only [wpE_pure, goInt]
      refine ⟨_, _, rfl, ⟨rfl, rfl⟩, ?_⟩
      simp only [entE]
      have := (st'.put (o' := .map ⟨es ++ [⟨key, z, ck⟩]⟩ (ck + 1))).perm (p2 _)
      simpa using this
    | some x =>
      obtain ⟨i, w⟩ := x
      have hs := hsame i w rfl
      simp only [wpE_bind', List.getElem?_toArray, hs, Option.getD_some, Instr.keyThatStays, hk.same, if_true, wpE_pure]
      refine wpE_setObj hm rfl ?_
      simp only [goInt]
      refine ⟨_, _, rfl, ⟨?_, rfl⟩, ?_⟩
      · simp only [entE]; cases es[i]? <;> rfl
      simp only [entE]
      have := (st'.put (o' := .map ⟨es⟩ ck)).perm (p2 _)
      simpa [modify_key hs] using this
  · rintro a Γ' ⟨rfl, rfl⟩
    exact ⟨hr, e⟩

theorem rg_entryStore {t : TypeId} {x y w : Operand} {r i : Nat} {es : List MapEntry} {ck : Nat} {v : Value} {s : Int} {f : Obj → List Ch} (hx : Env.val E x = some (.map (some r))) (hy : Env.val E y = some (.int .i64 s)) (hw : Env.val E w = some v)
    [rp : Repl Γ r (.map ⟨es⟩ ck) f] (hf : es.findIdx? (fun e => (e.born : Int) == s) = some i)
    (e : Rg P X b n dr ops (lo + 1) ex fl E rem k cs (f (.map ⟨es.modify i fun e => { e with val := v }⟩ ck)))
    (hex : NotYet ex lo := trivial) (hg : GuardOK ops ⟨none, .entryStore t x y w, T, pos, af, gd⟩ E := by first | exact trivial | exact ⟨_, rfl, rfl⟩)
    (hc : dr = false ∨ chkLast ops lo ex = true := by first | exact .inl rfl | exact .inr (by decide +kernel))
    (hr : dr = false ∨ Reval ops ex lo fl (f (.map ⟨es.modify i fun e => { e with val := v }⟩ ck)) := by first | exact .inl rfl | exact .inr (by (repeat' first | exact trivial | refine ⟨.inr ⟨_, _, _, _, Find.mem, rfl⟩, ?_⟩ | refine ⟨.inr ⟨_, _, _, _, Find.mem, inferInstance⟩, ?_⟩ | refine ⟨.inr ⟨_, Find.mem⟩, ?_⟩ | refine ⟨.inl (by decide +kernel), ?_⟩))) :
    Rg P X b n dr ops lo ex fl E (⟨none, .entryStore t x y w, T, pos, af, gd⟩ :: rem) k cs Γ := by
  refine rg_loud (φ := fun a Γ' => a = undef ∧ Γ' = f (.map ⟨es.modify i fun e => { e with val := v }⟩ ck)) (fun d e => by cases e) hex hg hc ?_ ?_
  · refine does_of_wp rfl fun ρ h hρ st => ?_
    have h1 := hρ x (by simp [Op.operands]) _ hx
    have h2 := hρ y (by simp [Op.operands]) _ hy
    have h3 := hρ w (by simp [Op.operands]) _ hw
    obtain ⟨Δ, p1, p2⟩ := rp.perm
    have st' := st.perm p1
    have hm := Star.mem (List.mem_cons_self ..) st'
    simp only [execOp, wpE_bind', h1, h2, h3, Instr.entryStore]
    refine wpE_getObj hm rfl ?_
    simp only [asInt, asIntOf, wpE_bind', wpE_pure, List.findIdx?_toArray, hf]
    refine wpE_setObj hm rfl ?_
    refine ⟨undef, _, rfl, ⟨rfl, rfl⟩, ?_⟩
    have := (st'.put (o' := .map ⟨es.modify i fun e => { e with val := v }⟩ ck)).perm (p2 _)
    simpa using this
  · rintro a Γ' ⟨rfl, rfl⟩
    exact ⟨hr, e⟩

/-- What a delete makes of the entries. -/
def delE (es : List MapEntry) : Option (Nat × Value) → List MapEntry
  | some (i, _) => es.eraseIdx i
  | none => es

theorem rg_delete {t K el : TypeId} {at2 : TypeId} {x y : Operand} {r : Nat} {es : List MapEntry} {ck : Nat} {key : Value} {f : Obj → List Ch} {res : Option (Nat × Value)} [u : Under P t (.map K el)] (hx : Env.val E x = some (.map (some r))) (hy : Env.val E y = some key)
    (hk : KeyOK P K key) [rp : Repl Γ r (.map ⟨es⟩ ck) f] (hf : FindK P K key es res)
    (e : Rg P X b n dr ops (lo + 1) ex fl E rem k cs (f (.map ⟨delE es res⟩ ck)))
    (hex : NotYet ex lo := trivial) (hg : GuardOK ops ⟨none, .call ⟨.builtin .delete, ⟨[x, y]⟩, ⟨[t, at2]⟩⟩, T, pos, af, gd⟩ E := by first | exact trivial | exact ⟨_, rfl, rfl⟩)
    (hc : dr = false ∨ chkLast ops lo ex = true := by first | exact .inl rfl | exact .inr (by decide +kernel))
    (hr : dr = false ∨ Reval ops ex lo fl (f (.map ⟨delE es res⟩ ck)) := by first | exact .inl rfl | exact .inr (by (repeat' first | exact trivial | refine ⟨.inr ⟨_, _, _, _, Find.mem, rfl⟩, ?_⟩ | refine ⟨.inr ⟨_, _, _, _, Find.mem, inferInstance⟩, ?_⟩ | refine ⟨.inr ⟨_, Find.mem⟩, ?_⟩ | refine ⟨.inl (by decide +kernel), ?_⟩))) :
    Rg P X b n dr ops lo ex fl E (⟨none, .call ⟨.builtin .delete, ⟨[x, y]⟩, ⟨[t, at2]⟩⟩, T, pos, af, gd⟩ :: rem) k cs Γ := by
  refine rg_loud (φ := fun _ Γ' => Γ' = f (.map ⟨delE es res⟩ ck)) (fun d e => by cases e) hex hg hc ?_ ?_
  · refine does_of_wp rfl fun ρ h hρ st => ?_
    have h1 := hρ x (by simp [Op.operands, Call.operands]) _ hx
    have h2 := hρ y (by simp [Op.operands, Call.operands]) _ hy
    obtain ⟨Δ, p1, p2⟩ := rp.perm
    have st' := st.perm p1
    have hm := Star.mem (List.mem_cons_self ..) st'
    refine wpE_builtin rfl ?_
    simp only [List.map_toArray, List.map_cons, List.map_nil, h1, h2, builtin, Builtin.delete_, wpE_bind', List.getElem?_toArray, List.getElem?_cons_zero, List.getElem?_cons_succ, wpE_underlying u.eq]
    refine wpE_getObj hm rfl ?_
    simp only [wpE_bind']
    refine hk.check _ _ _ (hf _ _ ?_)
    cases res with
    | none =>
      simp only [wpE_bind']
      refine wpE_setObj hm rfl ?_
      simp only [wpE_pure]
      exact ⟨_, _, rfl, rfl, (st'.put (o' := .map ⟨es⟩ ck)).perm (p2 _)⟩
    | some x =>
      simp only [wpE_bind']
      refine wpE_setObj hm rfl ?_
      simp only [wpE_pure]
      refine ⟨_, _, rfl, rfl, ?_⟩
      have := (st'.put (o' := .map ⟨es.eraseIdx x.1⟩ ck)).perm (p2 _)
      simpa [delE] using this
  · rintro a Γ' rfl
    exact ⟨hr, e⟩

theorem rg_makeMap {t : TypeId} (e : ∀ r, Rg P X b n dr ops (lo + 1) ex fl ((d, .map (some r)) :: E) rem k cs (.pt r true (.map ⟨[]⟩ 0) :: Γ))
    (hdn : d < n := by decide) (hex : NotYet ex lo := trivial) (hg : GuardOK ops ⟨some d, .makeMap t none, T, pos, af, gd⟩ E := by first | exact trivial | exact ⟨_, rfl, rfl⟩)
    (hc : dr = false ∨ chkLast ops lo ex = true := by first | exact .inl rfl | exact .inr (by decide +kernel))
    (hr : ∀ r, dr = false ∨ Reval ops ex lo fl (.pt r true (.map ⟨[]⟩ 0) :: Γ) := by first | exact fun _ => .inl rfl | exact fun _ => .inr (by (repeat' first | exact trivial | refine ⟨.inr ⟨_, _, _, _, Find.mem, rfl⟩, ?_⟩ | refine ⟨.inr ⟨_, _, _, _, Find.mem, inferInstance⟩, ?_⟩ | refine ⟨.inr ⟨_, Find.mem⟩, ?_⟩ | refine ⟨.inl (by decide +kernel), ?_⟩))) :
    Rg P X b n dr ops lo ex fl E (⟨some d, .makeMap t none, T, pos, af, gd⟩ :: rem) k cs Γ := by
  refine rg_loud (φ := fun u Γ' => ∃ r, u = .map (some r) ∧ Γ' = .pt r true (.map ⟨[]⟩ 0) :: Γ) (fun d' e => by cases e; exact hdn) hex hg hc ?_ ?_
  · refine does_of_wp rfl fun ρ h hρ st => ?_
    simp only [execOp, wpE_bind', Option.map_none, Instr.makeMap, newObj, wpE, wpE_pure]
    intro r hr'
    exact ⟨_, _, rfl, ⟨r, rfl, rfl⟩, st.new hr'⟩
  · rintro u Γ' ⟨r, rfl, rfl⟩
    exact ⟨hr r, e r⟩

end

end Go.Lx
