/-
  A table that grows and shrinks a few buckets at a time, as plain data: what each of its calls makes of it, and that it keeps a right table right.
  Conditions: none. No program in sight.
-/
import Derived.Test.YtopkabhgkhjecaaGreatQuiet
namespace Go.PS
open Go

/-- The number of a text for a seed, as the program reckons it. -/
noncomputable def hashStep (h : Int) (c : UInt8) : Int := IntKind.u64.wrap (bitsI .xor .u64 h (IntKind.u64.wrap c.toNat) * 1099511628211)
noncomputable def hashEnd (h : Int) : Int :=
  let a := bitsI .xor .u64 h (h.fdiv (2 ^ 32))
  let b := IntKind.u64.wrap (a * 11400714819323198485)
  bitsI .xor .u64 b (b.fdiv (2 ^ 29))
noncomputable def hashRaw (seed : Int) (s : ByteArray) : Int := hashEnd (s.data.toList.foldl hashStep (bitsI .xor .u64 14695981039346656037 seed))
theorem hash_ex : ∃ f : Int → ByteArray → Int, f = hashRaw := ⟨_, rfl⟩
noncomputable def hashI : Int → ByteArray → Int := Classical.choose hash_ex
theorem hashI_eq : hashI = hashRaw := Classical.choose_spec hash_ex
noncomputable def slotI (seed : Int) (key : ByteArray) (len : Nat) : Int := bitsI .and .u64 (hashI seed key) (IntKind.u64.wrap ((len : Int) - 1))
theorem slot_ex : ∃ f : Int → ByteArray → Nat → Nat, f = fun seed key len => (slotI seed key len).toNat := ⟨_, rfl⟩
noncomputable def slot : Int → ByteArray → Nat → Nat := Classical.choose slot_ex
theorem slot_eq (seed : Int) (key : ByteArray) (len : Nat) : slot seed key len = (slotI seed key len).toNat := by
  have := Classical.choose_spec slot_ex
  exact congrFun (congrFun (congrFun this seed) key) len

theorem u64_wrap {n : Int} (h0 : 0 ≤ n) (h1 : n ≤ 18446744073709551615) : IntKind.u64.wrap n = n := by
  unfold IntKind.wrap
  simp [IntKind.signed, IntKind.bits]
  omega
theorem u64_wrap_range (n : Int) : 0 ≤ IntKind.u64.wrap n ∧ IntKind.u64.wrap n ≤ 18446744073709551615 := by
  unfold IntKind.wrap
  simp [IntKind.signed, IntKind.bits]
  omega
theorem bitsI_range (op : BinOp) (a b : Int) : 0 ≤ bitsI op .u64 a b ∧ bitsI op .u64 a b ≤ 18446744073709551615 := by
  rw [bitsI_eq]; unfold bitsRaw
  exact u64_wrap_range _
theorem and_le (a : Int) (n : Nat) (h : n ≤ 18446744073709551615) : bitsI .and .u64 a n ≤ n := by
  rw [bitsI_eq]; unfold bitsRaw
  simp only
  have h1 : (BitVec.ofInt IntKind.u64.bits a &&& BitVec.ofInt IntKind.u64.bits (n : Int)).toNat ≤ n := by
    rw [BitVec.toNat_and]
    refine Nat.le_trans Nat.and_le_right ?_
    rw [BitVec.toNat_ofInt]
    simp only [IntKind.bits]
    omega
  rw [u64_wrap (by omega) (by omega)]
  omega
theorem slot_lt {seed : Int} {key : ByteArray} {len : Nat} (h0 : 0 < len) (h1 : len ≤ 9223372036854775807) : 0 ≤ slotI seed key len ∧ slotI seed key len < len ∧ slot seed key len < len := by
  have hr := bitsI_range .and (hashI seed key) (IntKind.u64.wrap ((len : Int) - 1))
  have hw : IntKind.u64.wrap ((len : Int) - 1) = ((len - 1 : Nat) : Int) := by
    rw [u64_wrap (by omega) (by omega)]; omega
  have hl : slotI seed key len ≤ ((len - 1 : Nat) : Int) := by
    unfold slotI
    rw [hw]
    exact and_le _ _ (by omega)
  have h2 : 0 ≤ slotI seed key len := hr.1
  refine ⟨h2, by omega, ?_⟩
  rw [slot_eq]
  omega

/-- The table: chains of keys with what lies under them. -/
structure D (α : Type) where
  seed : Int
  old : List (List (ByteArray × α))
  young : List (List (ByteArray × α))
  at_ : Nat
  n : Nat

namespace D
variable {α : Type}

noncomputable def lay (seed : Int) (t : List (List (ByteArray × α))) (e : ByteArray × α) : List (List (ByteArray × α)) :=
  t.modify (slot seed e.1 t.length) (e :: ·)

/-- How many buckets a step passes. -/
def pass : Nat → List (List (ByteArray × α)) → Nat → Nat
  | 0, _, a => a
  | k + 1, t, a => match t[a]? with
    | some [] => pass k t (a + 1)
    | _ => a
def turned (d : D α) : D α := if d.at_ = d.old.length then { d with old := d.young, young := [], at_ := 0 } else d
noncomputable def move (d : D α) : D α :=
  match d.old[d.at_]? with
  | some (e :: c) => { d with young := (e :: c).foldl (lay d.seed) d.young, old := d.old.set d.at_ [], at_ := d.at_ + 1 }
  | _ => d
noncomputable def step (d : D α) : D α := if d.young = [] then d else (({ d with at_ := pass 10 d.old d.at_ } : D α).move).turned

def inChain (c : List (ByteArray × α)) (key : ByteArray) : Option α := (c.find? (fun e => e.1 = key)).map (·.2)
noncomputable def inTab (seed : Int) (t : List (List (ByteArray × α))) (key : ByteArray) : Option α :=
  match t[slot seed key t.length]? with
  | some c => inChain c key
  | none => none
/-- What lies under a key. -/
noncomputable def find (d : D α) (key : ByteArray) : Option α := (inTab d.seed d.old key).or (inTab d.seed d.young key)
def idx (c : List (ByteArray × α)) (key : ByteArray) : Option Nat := c.findIdx? (fun e => e.1 = key)
def updChain (key : ByteArray) (f : α → α) (c : List (ByteArray × α)) : List (ByteArray × α) := match idx c key with
  | some j => c.modify j (fun x => (x.1, f x.2))
  | none => c
def delChain (key : ByteArray) (c : List (ByteArray × α)) : List (ByteArray × α) := match idx c key with
  | some j => c.eraseIdx j
  | none => c
noncomputable def atSlot (seed : Int) (t : List (List (ByteArray × α))) (key : ByteArray) (g : List (ByteArray × α) → List (ByteArray × α)) : List (List (ByteArray × α)) := t.modify (slot seed key t.length) g
/-- One chain is changed: the one that holds the key. -/
noncomputable def change (d : D α) (key : ByteArray) (g : List (ByteArray × α) → List (ByteArray × α)) : D α :=
  if (inTab d.seed d.old key).isSome then { d with old := atSlot d.seed d.old key g } else { d with young := atSlot d.seed d.young key g }
noncomputable def upd (d : D α) (key : ByteArray) (f : α → α) : D α := d.change key (updChain key f)
def grown (d : D α) : D α :=
  if d.old = [] then { d with old := List.replicate 4 [] }
  else if d.young = [] ∧ d.old.length ≤ d.n then { d with young := List.replicate (2 * d.old.length) [] } else d
noncomputable def insert (d : D α) (key : ByteArray) (a : α) : D α :=
  if d.grown.young = [] then { d.grown with old := lay d.seed d.grown.old (key, a), n := d.n + 1 } else { d.grown with young := lay d.seed d.grown.young (key, a), n := d.n + 1 }
/-- Set: what was under the key is changed by 'f', or 'a' is new. -/
noncomputable def set (d : D α) (key : ByteArray) (f : α → α) (a : α) : D α := if (d.step.find key).isSome then d.step.upd key f else d.step.insert key a
def least : Nat → Nat → Nat → Nat
  | 0, _, s => s
  | k + 1, n, s => if s < n then least k n (2 * s) else s
def shrunk (d : D α) : D α := if d.young = [] ∧ 4 < d.old.length ∧ 8 * d.n ≤ d.old.length then { d with young := List.replicate (least 64 d.n 4) [] } else d
noncomputable def delete (d : D α) (key : ByteArray) : D α := if (d.step.find key).isSome then (shrunk { d.step.change key (delChain key) with n := d.n - 1 }) else d.step
/-- The first bucket with something in it, from a place on and round. -/
def probe (rows : List (List (ByteArray × α))) : Nat → Nat → Option (List (ByteArray × α))
  | 0, _ => none
  | k + 1, i => match rows[i % rows.length]? with
    | some (x :: c) => some (x :: c)
    | _ => probe rows k (i + 1)
def rows (d : D α) : List (List (ByteArray × α)) := d.old.drop d.at_ ++ d.young
/-- The key that a drawn number picks. -/
def sample (d : D α) (r : Nat) : Option ByteArray :=
  if d.n = 0 then none else (probe d.rows d.rows.length (r % d.rows.length)).bind fun c => (c[r / d.rows.length % c.length]?).map (·.1)
/-- All keys with what lies under them, table by table and bucket by bucket. -/
def all (d : D α) : List (ByteArray × α) := (d.old.drop d.at_).flatten ++ d.young.flatten

theorem pass_zero (t : List (List (ByteArray × α))) (a : Nat) : pass 0 t a = a := rfl
theorem pass_empty {t : List (List (ByteArray × α))} {k a : Nat} (h : t[a]? = some []) : pass (k + 1) t a = pass k t (a + 1) := by simp [pass, h]
theorem pass_full {t : List (List (ByteArray × α))} {k a : Nat} {c : List (ByteArray × α)} (h : t[a]? = some c) (hc : c ≠ []) : pass k t a = a := by
  cases k with
  | zero => rfl
  | succ k => cases c with
    | nil => exact absurd rfl hc
    | cons x r => simp [pass, h]
theorem pass_end {t : List (List (ByteArray × α))} {k a : Nat} (h : t.length ≤ a) : pass k t a = a := by
  cases k with
  | zero => rfl
  | succ k => simp [pass, List.getElem?_eq_none h]
theorem idx_find {c : List (ByteArray × α)} {key : ByteArray} : inChain c key = (idx c key).bind fun j => (c[j]?).map (·.2) := by
  unfold inChain idx
  induction c with
  | nil => rfl
  | cons x r ih =>
    rw [List.find?_cons, List.findIdx?_cons]
    by_cases h : x.1 = key
    · simp [h]
    · simp only [h, decide_false, Bool.false_eq_true, if_false]
      rw [ih]
      cases r.findIdx? (fun e => decide (e.1 = key)) <;> simp
theorem step_seed (d : D α) : d.step.seed = d.seed := by
  unfold step turned move
  repeat' split
  all_goals rfl
theorem step_n (d : D α) : d.step.n = d.n := by
  unfold step turned move
  repeat' split
  all_goals rfl
end D
theorem D.lay_length {α : Type} (seed : Int) (t : List (List (ByteArray × α))) (x : ByteArray × α) : (D.lay seed t x).length = t.length := by simp [D.lay]
theorem D.layAll_length {α : Type} (seed : Int) (c : List (ByteArray × α)) : ∀ t : List (List (ByteArray × α)), (c.foldl (D.lay seed) t).length = t.length := by
  induction c with
  | nil => intro t; rfl
  | cons x r ih => intro t; rw [List.foldl_cons, ih, D.lay_length]

/-- What a table must be for its calls to go through. -/
structure DOk {α : Type} (d : D α) : Prop where
  at_le : d.at_ ≤ d.old.length
  lo : d.old.length ≤ 1152921504606846976
  ly : d.young.length ≤ 1152921504606846976
  yo : d.young ≠ [] → d.old ≠ []
  keysO : ∀ c ∈ d.old, ∀ x ∈ c, x.1.size ≤ 9223372036854775806
  keysY : ∀ c ∈ d.young, ∀ x ∈ c, x.1.size ≤ 9223372036854775806

theorem lay_keys {α : Type} {seed : Int} {t : List (List (ByteArray × α))} {y : ByteArray × α} {p : ByteArray × α → Prop} (ht : ∀ c ∈ t, ∀ x ∈ c, p x) (hy : p y) : ∀ c ∈ D.lay seed t y, ∀ x ∈ c, p x := by
  intro c hc x hx
  unfold D.lay at hc
  rw [List.modify_eq_take_drop] at hc
  rcases List.mem_append.1 hc with hc | hc
  · exact ht c (List.mem_of_mem_take hc) x hx
  · cases hd : t.drop (slot seed y.1 t.length) with
    | nil => rw [hd] at hc; cases hc
    | cons c0 r =>
      rw [hd] at hc
      have hmem : ∀ q ∈ c0 :: r, q ∈ t := fun q hq => List.mem_of_mem_drop (by rw [hd]; exact hq)
      rcases List.mem_cons.1 hc with rfl | hc
      · rcases List.mem_cons.1 hx with rfl | hx
        · exact hy
        · exact ht c0 (hmem c0 (.head _)) x hx
      · exact ht c (hmem c (.tail _ hc)) x hx
theorem layAll_keys {α : Type} {seed : Int} {p : ByteArray × α → Prop} : ∀ (l : List (ByteArray × α)) (t : List (List (ByteArray × α))), (∀ c ∈ t, ∀ x ∈ c, p x) → (∀ x ∈ l, p x) → ∀ c ∈ l.foldl (D.lay seed) t, ∀ x ∈ c, p x
  | [], _, ht, _ => ht
  | y :: l, t, ht, hl => layAll_keys l _ (lay_keys ht (hl y (.head _))) fun x hx => hl x (.tail _ hx)
theorem pass_le {α : Type} (t : List (List (ByteArray × α))) : ∀ (k a : Nat), a ≤ t.length → D.pass k t a ≤ t.length
  | 0, a, h => h
  | k + 1, a, h => by
    unfold D.pass
    split
    · rename_i he
      exact pass_le t k (a + 1) (List.getElem?_eq_some_iff.1 he).1
    · exact h
theorem DOk.step {α : Type} {d : D α} (h : DOk d) : DOk d.step := by
  unfold D.step
  split
  · exact h
  · rename_i hy
    have hp := pass_le d.old 10 d.at_ h.at_le
    generalize D.pass 10 d.old d.at_ = a at *
    have hm : DOk ({ d with at_ := a } : D α).move ∧ ({ d with at_ := a } : D α).move.young ≠ [] := by
      unfold D.move
      split
      · rename_i e c he
        simp only at he
        have hlt := (List.getElem?_eq_some_iff.1 he).1
        have hmem := List.mem_of_getElem? he
        have hne : (e :: c).foldl (D.lay d.seed) d.young ≠ [] := by
          intro hh
          have := D.layAll_length d.seed (e :: c) d.young
          rw [hh] at this
          exact hy (List.length_eq_zero_iff.1 this.symm)
        refine ⟨⟨by simp only [List.length_set]; exact hlt, by simpa using h.lo, by rw [D.layAll_length]; exact h.ly, fun _ hh => ?_, fun c' hc' x hx => ?_, ?_⟩, hne⟩
        · have := congrArg List.length hh
          simp at this
          exact h.yo hy this
        · rcases List.mem_or_eq_of_mem_set hc' with hc' | rfl
          · exact h.keysO c' hc' x hx
          · cases hx
        · exact layAll_keys _ _ h.keysY (fun x hx => h.keysO _ hmem x hx)
      · exact ⟨⟨hp, h.lo, h.ly, h.yo, h.keysO, h.keysY⟩, hy⟩
    obtain ⟨hm, hy'⟩ := hm
    unfold D.turned
    split
    · exact ⟨Nat.zero_le _, hm.ly, Nat.zero_le _, fun hh => absurd rfl hh, hm.keysY, fun c hc => by cases hc⟩
    · exact hm
end Go.PS
