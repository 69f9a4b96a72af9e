/-
  The keyspace as plain data: what each of its calls makes of it, and that it stays right.
  Conditions: none. No program in sight.
-/
import Derived.Test.YtopkabhgkhjecaaGreatDictN
import Derived.Test.YtopkabhgkhjecaaGreatMaps
namespace Go.PS
open Go

structure Cfg where
  seed : Int
  most : Int
  policy : Int
  samples : Int
/-- What is stored under a key: a text, when it was used last, its deadline (0: none). -/
structure PE where
  text : ByteArray
  stamp : Int
  at_ : Int
structure Sp (α : Type) where
  cfg : Cfg
  now : Int
  uses : Int
  used : Int
  main : D α
  late : D α
  ent : ByteArray → PE
  touched : List ByteArray
  steps : List (Int × ByteArray)

namespace D
variable {α : Type}
theorem keysP {l m : List (ByteArray × α)} (p : l.Perm m) : (l.map (·.1)).Perm (m.map (·.1)) := p.map (·.1)
theorem nodup_len {l : List ByteArray} : ∀ {m : List ByteArray}, l.Nodup → (∀ k ∈ l, k ∈ m) → l.length ≤ m.length := by
  induction l with
  | nil => intro m _ _; simp
  | cons k l ih =>
    intro m hn hs
    rw [List.nodup_cons] at hn
    obtain ⟨a, b, e⟩ := List.append_of_mem (hs k (.head _))
    have p : m.Perm (k :: (a ++ b)) := by rw [e]; exact List.perm_middle
    have := ih (m := a ++ b) hn.2 fun q hq => by
      have := p.mem_iff.1 (hs q (.tail _ hq))
      rcases List.mem_cons.1 this with h | h
      · exact absurd (h ▸ hq) hn.1
      · exact h
    rw [p.length_eq]
    simp only [List.length_cons]
    omega
theorem WF.step_keys {d : D α} (h : WF d) : d.step.keys.Perm d.keys := h.step.2.map _
theorem WF.mem_step {d : D α} (h : WF d) {k : ByteArray} : k ∈ d.step.keys ↔ k ∈ d.keys := h.step_keys.mem_iff
theorem WF.del_keys {d : D α} (h : WF d) (hn : d.n ≤ 1099511627776) {key : ByteArray} (hk : key ∈ d.keys) : d.keys.Perm (key :: (d.delete key).keys) := by
  rcases (h.delete hn key).2 with ⟨p, R, h1, h2, h3⟩ | ⟨h1, _⟩
  · exact (keysP h2).trans ((keysP h3.symm).cons key)
  · exact absurd hk (h.find_none.1 h1)
theorem WF.mem_del {d : D α} (h : WF d) (hn : d.n ≤ 1099511627776) {key k : ByteArray} : k ∈ (d.delete key).keys ↔ k ∈ d.keys ∧ k ≠ key := by
  rcases (h.delete hn key).2 with ⟨p, R, h1, h2, h3⟩ | ⟨h1, h2⟩
  · have e1 : d.keys.Perm (key :: R.map (·.1)) := keysP h2
    have e2 : (d.delete key).keys.Perm (R.map (·.1)) := keysP h3
    have hn := (e1.nodup_iff).1 h.uniq
    rw [List.nodup_cons] at hn
    rw [e2.mem_iff, e1.mem_iff, List.mem_cons]
    constructor
    · intro hm; exact ⟨.inr hm, fun e => hn.1 (e ▸ hm)⟩
    · rintro ⟨hm | hm, hne⟩
      · exact absurd hm hne
      · exact hm
  · have e2 : (d.delete key).keys.Perm d.keys := keysP h2
    rw [e2.mem_iff]
    exact ⟨fun hm => ⟨hm, fun e => h.find_none.1 h1 (e ▸ hm)⟩, fun hm => hm.1⟩
theorem WF.mem_set {d : D α} (h : WF d) (hn : d.n ≤ 1099511627776) {key k : ByteArray} {f : α → α} {a : α} (hk : key.size ≤ 9223372036854775806) : k ∈ (d.set key f a).keys ↔ k = key ∨ k ∈ d.keys := by
  rcases (h.set hn key f a hk).2 with ⟨p, R, h1, h2, h3⟩ | ⟨h1, h2⟩
  · have e1 : d.keys.Perm (key :: R.map (·.1)) := keysP h2
    have e2 : (d.set key f a).keys.Perm (key :: R.map (·.1)) := keysP h3
    rw [e2.mem_iff, e1.mem_iff, List.mem_cons]
    exact ⟨.inr, fun h => h.elim .inl id⟩
  · have e2 : (d.set key f a).keys.Perm (key :: d.keys) := keysP h2
    rw [e2.mem_iff, List.mem_cons]
theorem WF.n_keys {d : D α} (h : WF d) : d.n = d.keys.length := by rw [h.count]; simp [keys]
theorem WF.del_n {d : D α} (h : WF d) (hn : d.n ≤ 1099511627776) {key : ByteArray} (hk : key ∈ d.keys) : (d.delete key).n + 1 = d.n := by
  rw [(h.delete hn key).1.n_keys, h.n_keys, (h.del_keys hn hk).length_eq]; rfl
theorem WF.set_keys_new {d : D α} (h : WF d) (hn : d.n ≤ 1099511627776) {key : ByteArray} {f : α → α} {a : α} (hk : key.size ≤ 9223372036854775806) (hm : key ∉ d.keys) : (d.set key f a).keys.Perm (key :: d.keys) := by
  rcases (h.set hn key f a hk).2 with ⟨p, R, h1, h2, h3⟩ | ⟨h1, h2⟩
  · exact absurd ((keysP h2).mem_iff.2 (.head _)) hm
  · exact keysP h2
theorem WF.set_keys_old {d : D α} (h : WF d) (hn : d.n ≤ 1099511627776) {key : ByteArray} {f : α → α} {a : α} (hk : key.size ≤ 9223372036854775806) (hm : key ∈ d.keys) : (d.set key f a).keys.Perm d.keys := by
  rcases (h.set hn key f a hk).2 with ⟨p, R, h1, h2, h3⟩ | ⟨h1, h2⟩
  · exact (keysP h3).trans (keysP h2).symm
  · exact absurd hm (h.find_none.1 h1)
theorem WF.set_n {d : D α} (h : WF d) (hn : d.n ≤ 1099511627776) {key : ByteArray} {f : α → α} {a : α} (hk : key.size ≤ 9223372036854775806) : (d.set key f a).n ≤ d.n + 1 := by
  rw [(h.set hn key f a hk).1.n_keys, h.n_keys]
  by_cases hm : key ∈ d.keys
  · rw [(h.set_keys_old hn hk hm).length_eq]; omega
  · rw [(h.set_keys_new hn hk hm).length_eq]; simp
theorem WF.items_del {d : D α} (h : WF d) (hn : d.n ≤ 1099511627776) {key : ByteArray} {x : ByteArray × α} : x ∈ (d.delete key).items ↔ x ∈ d.items ∧ x.1 ≠ key := by
  rcases (h.delete hn key).2 with ⟨p, R, h1, h2, h3⟩ | ⟨h1, h2⟩
  · rw [h3.mem_iff, h2.mem_iff, List.mem_cons]
    have hu := nodupP h2.symm h.uniq
    simp only [List.map_cons, List.nodup_cons] at hu
    constructor
    · intro hx; exact ⟨.inr hx, fun e => hu.1 (List.mem_map.2 ⟨x, hx, e⟩)⟩
    · rintro ⟨hx | hx, hne⟩
      · rw [hx] at hne; exact absurd rfl hne
      · exact hx
  · rw [h2.mem_iff]
    exact ⟨fun hx => ⟨hx, fun e => h.find_none.1 h1 (List.mem_map.2 ⟨x, hx, e⟩)⟩, fun hx => hx.1⟩
theorem WF.items_set {d : D α} (h : WF d) (hn : d.n ≤ 1099511627776) {key : ByteArray} {a : α} (hk : key.size ≤ 9223372036854775806) {x : ByteArray × α} : x ∈ (d.set key (fun _ => a) a).items ↔ x = (key, a) ∨ (x ∈ d.items ∧ x.1 ≠ key) := by
  rcases (h.set hn key (fun _ => a) a hk).2 with ⟨p, R, h1, h2, h3⟩ | ⟨h1, h2⟩
  · rw [h3.mem_iff, h2.mem_iff, List.mem_cons, List.mem_cons]
    have hu := nodupP h2.symm h.uniq
    simp only [List.map_cons, List.nodup_cons] at hu
    constructor
    · rintro (hx | hx)
      · exact .inl hx
      · exact .inr ⟨.inr hx, fun e => hu.1 (List.mem_map.2 ⟨x, hx, e⟩)⟩
    · rintro (hx | ⟨hx | hx, hne⟩)
      · exact .inl hx
      · rw [hx] at hne; exact absurd rfl hne
      · exact .inr hx
  · rw [h2.mem_iff, List.mem_cons]
    constructor
    · rintro (hx | hx)
      · exact .inl hx
      · exact .inr ⟨hx, fun e => h.find_none.1 h1 (List.mem_map.2 ⟨x, hx, e⟩)⟩
    · rintro (hx | hx)
      · exact .inl hx
      · exact .inr hx.1
end D

namespace Sp
variable {α β : Type}

def costs (key : ByteArray) (e : PE) : Int := 48 + key.size + e.text.size + (if 0 < e.at_ then 16 else 0)
def past (s : Sp α) (a : Int) : Bool := decide (0 < a ∧ a ≤ s.now)
def touch (s : Sp α) (key : ByteArray) : Sp α := { s with touched := withKey key s.touched }
noncomputable def goes (s : Sp α) (key : ByteArray) : Sp α :=
  { s with used := s.used - costs key (s.ent key), main := s.main.delete key, late := if 0 < (s.ent key).at_ then s.late.delete key else s.late, touched := withKey key s.touched }
noncomputable def expires (s : Sp α) (key : ByteArray) : Sp α := { s.goes key with steps := s.steps ++ [(1, key)] }
noncomputable def stepped (s : Sp α) : Sp α := { s with main := s.main.step }
noncomputable def has (s : Sp α) (key : ByteArray) : Bool := (s.main.find key).isSome
/-- Is the key there? -/
noncomputable def there (s : Sp α) (key : ByteArray) : Bool := s.has key && !s.past (s.ent key).at_
noncomputable def met (s : Sp α) (key : ByteArray) : Sp α := if s.has key && s.past (s.ent key).at_ then s.stepped.expires key else s.stepped
def setEnt (s : Sp α) (key : ByteArray) (e : PE) : Sp α := { s with ent := fun k => if k = key then e else s.ent k }
def use (s : Sp α) (key : ByteArray) : Sp α := { s.setEnt key { s.ent key with stamp := IntKind.u64.wrap (s.uses + 1) } with uses := IntKind.u64.wrap (s.uses + 1) }
noncomputable def get (s : Sp α) (key : ByteArray) : Sp α := if s.there key then (s.met key).use key else s.met key
noncomputable def delete (s : Sp α) (key : ByteArray) : Sp α := if s.there key then (s.met key).goes key else s.met key
noncomputable def evict (s : Sp α) (key : ByteArray) : Sp α := if s.there key then { (s.met key).goes key with steps := s.steps ++ [(2, key)] } else s.met key
/-- What goes of the old value when a key is put: what it cost, and its deadline. -/
noncomputable def unput (s : Sp α) (key : ByteArray) : Sp α := { s with used := s.used - costs key (s.ent key), late := if 0 < (s.ent key).at_ then s.late.delete key else s.late }
noncomputable def lay (s : Sp α) (key : ByteArray) (text : ByteArray) (a : α) : Sp α :=
  ({ (s.setEnt key ⟨text, 0, 0⟩) with main := s.main.set key (fun _ => a) a, used := s.used + costs key ⟨text, 0, 0⟩ } : Sp α)
noncomputable def put (s : Sp α) (key : ByteArray) (text : ByteArray) (a : α) : Sp α :=
  (((if s.there key then (s.met key).unput key else s.met key).lay key text a).use key).touch key
noncomputable def putTo (s : Sp α) (key : ByteArray) (text : ByteArray) (a : α) : Sp α := if 1048576 < key.size ∨ 1048576 < text.size then s else s.put key text a
noncomputable def dated (s : Sp α) (key : ByteArray) (at_ : Int) (a : α) : Sp α :=
  { (s.setEnt key { s.ent key with at_ := at_ }) with used := s.used - costs key (s.ent key) + costs key { s.ent key with at_ := at_ }, late := s.late.set key (fun _ => a) a, touched := withKey key s.touched }
noncomputable def setDeadline (s : Sp α) (key : ByteArray) (at_ : Int) (a : α) : Sp α :=
  if !s.there key || decide (9007199254740992 < at_) then s.met key
  else if at_ ≤ (s.met key).now then (s.met key).goes key else (s.met key).dated key at_ a
noncomputable def undated (s : Sp α) (key : ByteArray) : Sp α :=
  { (s.setEnt key { s.ent key with at_ := 0 }) with used := s.used - 16, late := s.late.delete key, touched := withKey key s.touched }
noncomputable def persist (s : Sp α) (key : ByteArray) : Sp α := if s.there key && decide ((s.ent key).at_ ≠ 0) then (s.met key).undated key else s.met key
def tick (s : Sp α) (now : Int) : Sp α := if now < 0 ∨ 9007199254740992 < now then s else { s with now := max s.now now }
def mk0 (c : Cfg) : Sp α := ⟨c, 0, 0, 0, D.mk0 c.seed, D.mk0 (IntKind.u64.wrap (c.seed + 1)), fun _ => ⟨ByteArray.empty, 0, 0⟩, [], []⟩

/-- What all keys cost. -/
def total (ent : ByteArray → PE) (l : List ByteArray) : Int := (l.map fun k => costs k (ent k)).sum
def vol (s : Sp α) : Nat := 2 * s.main.n + s.steps.length + s.touched.length

structure Ok (s : Sp α) : Prop where
  wm : s.main.WF
  wl : s.late.WF
  sub : ∀ k, k ∈ s.late.keys ↔ k ∈ s.main.keys ∧ 0 < (s.ent k).at_
  used : s.used = total s.ent s.main.keys
  key : ∀ k ∈ s.main.keys, k.size ≤ 1048576 ∧ (s.ent k).text.size ≤ 1048576 ∧ 0 ≤ (s.ent k).at_ ∧ (s.ent k).at_ ≤ 9007199254740992
  now : 0 ≤ s.now ∧ s.now ≤ 9007199254740992
  tnd : s.touched.Nodup

theorem total_cons (ent : ByteArray → PE) (k : ByteArray) (l : List ByteArray) : total ent (k :: l) = costs k (ent k) + total ent l := by simp [total]
theorem total_perm (ent : ByteArray → PE) {l m : List ByteArray} (p : l.Perm m) : total ent l = total ent m := by
  induction p with
  | nil => rfl
  | cons x _ ih => rw [total_cons, total_cons, ih]
  | swap x y l => rw [total_cons, total_cons, total_cons, total_cons]; omega
  | trans _ _ ih1 ih2 => rw [ih1, ih2]
theorem total_congr {ent ent' : ByteArray → PE} {l : List ByteArray} (h : ∀ k ∈ l, costs k (ent' k) = costs k (ent k)) : total ent' l = total ent l := by
  induction l with
  | nil => rfl
  | cons k l ih => rw [total_cons, total_cons, h k (.head _), ih fun k hk => h k (.tail _ hk)]
theorem costs_bound {k : ByteArray} {e : PE} (h1 : k.size ≤ 1048576) (h2 : e.text.size ≤ 1048576) : 0 ≤ costs k e ∧ costs k e ≤ 2097216 := by
  unfold costs
  split <;> omega
theorem total_bound {ent : ByteArray → PE} : ∀ {l : List ByteArray}, (∀ k ∈ l, k.size ≤ 1048576 ∧ (ent k).text.size ≤ 1048576) → 0 ≤ total ent l ∧ total ent l ≤ 2097216 * l.length
  | [], _ => by simp [total]
  | k :: l, h => by
    rw [total_cons]
    have h1 := costs_bound (h k (.head _)).1 (h k (.head _)).2
    have h2 := total_bound fun k' hk => h k' (.tail _ hk)
    simp only [List.length_cons]
    omega
theorem Ok.bound {s : Sp α} (h : Ok s) (hv : s.vol ≤ 1099511627776) : s.main.n ≤ 1099511627776 ∧ s.late.n ≤ 1099511627776 ∧ 0 ≤ s.used ∧ s.used ≤ 1152991873351024640 := by
  unfold vol at hv
  have h1 : s.main.n ≤ 549755813888 := by omega
  have h2 := total_bound (ent := s.ent) (l := s.main.keys) fun k hk => ⟨(h.key k hk).1, (h.key k hk).2.1⟩
  rw [← h.used, ← h.wm.n_keys] at h2
  have h3 : s.late.n ≤ s.main.n := by
    rw [h.wl.n_keys, h.wm.n_keys]
    exact D.nodup_len h.wl.uniq fun k hk => ((h.sub k).1 hk).1
  refine ⟨by omega, by omega, h2.1, ?_⟩
  have : (2097216 : Int) * s.main.n ≤ 2097216 * 549755813888 := by omega
  omega
theorem Ok.one {s : Sp α} (h : Ok s) {key : ByteArray} (hk : key ∈ s.main.keys) : costs key (s.ent key) ≤ s.used := by
  obtain ⟨l, p⟩ : ∃ l, s.main.keys.Perm (key :: l) := by
    obtain ⟨a, b, e⟩ := List.append_of_mem hk
    exact ⟨a ++ b, by rw [e]; exact List.perm_middle⟩
  rw [h.used, total_perm s.ent p, total_cons]
  have := (total_bound (ent := s.ent) (l := l) fun k hk' => by
    have := h.key k (p.mem_iff.2 (.tail _ hk')); exact ⟨this.1, this.2.1⟩).1
  omega

theorem withKey_nodup {key : ByteArray} {l : List ByteArray} (h : l.Nodup) : (withKey key l).Nodup := by
  by_cases hm : key ∈ l
  · rw [withKey_old hm]; exact h
  · rw [withKey_new hm, List.nodup_append]
    exact ⟨h, by simp, fun a ha b hb e => hm (by rw [List.mem_singleton.1 hb] at e; exact e ▸ ha)⟩
theorem withKey_len (key : ByteArray) (l : List ByteArray) : (withKey key l).length ≤ l.length + 1 := by
  unfold withKey; split <;> simp

theorem Ok.touch {s : Sp α} (h : Ok s) (key : ByteArray) : Ok (s.touch key) := ⟨h.wm, h.wl, h.sub, h.used, h.key, h.now, withKey_nodup h.tnd⟩
theorem Ok.stepped {s : Sp α} (h : Ok s) : Ok s.stepped :=
  ⟨h.wm.step.1, h.wl, fun k => by show _ ↔ k ∈ s.main.step.keys ∧ _; rw [h.wm.mem_step]; exact h.sub k, by show s.used = total s.ent s.main.step.keys; rw [total_perm s.ent h.wm.step_keys]; exact h.used,
    fun k hk => h.key k (h.wm.mem_step.1 hk), h.now, h.tnd⟩
theorem stepped_vol (s : Sp α) : s.stepped.vol = s.vol := by unfold vol stepped; simp only [D.step_n]
theorem Ok.goes {s : Sp α} (h : Ok s) (hv : s.vol ≤ 1099511627776) {key : ByteArray} (hk : key ∈ s.main.keys) : Ok (s.goes key) ∧ (s.goes key).vol + 1 ≤ s.vol := by
  obtain ⟨hn, hl, _, _⟩ := h.bound hv
  refine ⟨⟨(h.wm.delete hn key).1, ?_, fun k => ?_, ?_, fun k hk' => h.key k (h.wm.mem_del hn |>.1 hk').1, h.now, withKey_nodup h.tnd⟩, ?_⟩
  · show (if 0 < (s.ent key).at_ then s.late.delete key else s.late).WF
    split
    · exact (h.wl.delete hl key).1
    · exact h.wl
  · show k ∈ (if 0 < (s.ent key).at_ then s.late.delete key else s.late).keys ↔ k ∈ (s.main.delete key).keys ∧ 0 < (s.ent k).at_
    rw [h.wm.mem_del hn]
    split
    · rw [h.wl.mem_del hl, h.sub]
      exact ⟨fun ⟨⟨a, b⟩, c⟩ => ⟨⟨a, c⟩, b⟩, fun ⟨⟨a, c⟩, b⟩ => ⟨⟨a, b⟩, c⟩⟩
    · rename_i hna
      rw [h.sub]
      exact ⟨fun ⟨a, b⟩ => ⟨⟨a, fun e => hna (e ▸ b)⟩, b⟩, fun ⟨⟨a, _⟩, b⟩ => ⟨a, b⟩⟩
  · show s.used - costs key (s.ent key) = total s.ent (s.main.delete key).keys
    have := total_perm s.ent (h.wm.del_keys hn hk)
    rw [total_cons] at this
    rw [h.used]; omega
  · have h1 := h.wm.del_n hn hk
    have h2 := withKey_len key s.touched
    unfold vol Sp.goes
    simp only
    omega
theorem Ok.expires {s : Sp α} (h : Ok s) (hv : s.vol ≤ 1099511627776) {key : ByteArray} (hk : key ∈ s.main.keys) : Ok (s.expires key) ∧ (s.expires key).vol ≤ s.vol := by
  obtain ⟨h1, h2⟩ := h.goes hv hk
  refine ⟨⟨h1.wm, h1.wl, h1.sub, h1.used, h1.key, h1.now, h1.tnd⟩, ?_⟩
  unfold vol Sp.expires at *
  simp only [List.length_append, List.length_cons, List.length_nil] at *
  have : (s.goes key).steps = s.steps := rfl
  rw [this] at h2
  omega
theorem Ok.has_iff {s : Sp α} (h : Ok s) {key : ByteArray} : s.has key = true ↔ key ∈ s.main.keys := h.wm.find_isSome
theorem Ok.met {s : Sp α} (h : Ok s) (hv : s.vol ≤ 1099511627776) (key : ByteArray) : Ok (s.met key) ∧ (s.met key).vol ≤ s.vol := by
  unfold Sp.met
  have h1 := h.stepped
  have h2 := stepped_vol s
  split
  · rename_i hc
    simp only [Bool.and_eq_true] at hc
    have hm : key ∈ s.stepped.main.keys := h.wm.mem_step.2 (h.has_iff.1 hc.1)
    have := h1.expires (by omega) hm
    exact ⟨this.1, by omega⟩
  · exact ⟨h1, by omega⟩
/-- What is there behind 'met'. -/
theorem met_there {s : Sp α} (_h : Ok s) {key : ByteArray} (ht : s.there key = true) : s.met key = s.stepped := by
  unfold Sp.there at ht
  simp only [Bool.and_eq_true, Bool.not_eq_true'] at ht
  unfold Sp.met
  rw [ht.2]; simp
theorem Ok.there_mem {s : Sp α} (h : Ok s) {key : ByteArray} (ht : s.there key = true) : key ∈ s.main.keys ∧ key ∈ (s.met key).main.keys := by
  have e := met_there h ht
  unfold Sp.there at ht
  simp only [Bool.and_eq_true] at ht
  have := h.has_iff.1 ht.1
  exact ⟨this, by rw [e]; exact h.wm.mem_step.2 this⟩
theorem setEnt_at (s : Sp α) (key : ByteArray) (e : PE) : (s.setEnt key e).ent key = e := if_pos rfl
theorem setEnt_ne (s : Sp α) {key k : ByteArray} (e : PE) (h : k ≠ key) : (s.setEnt key e).ent k = s.ent k := if_neg h
theorem Ok.use {s : Sp α} (h : Ok s) (key : ByteArray) : Ok (s.use key) := by
  have he : ∀ k, costs k ((s.use key).ent k) = costs k (s.ent k) ∧ ((s.use key).ent k).text = (s.ent k).text ∧ ((s.use key).ent k).at_ = (s.ent k).at_ := by
    intro k
    by_cases e : k = key
    · subst e
      have : (s.use k).ent k = { s.ent k with stamp := IntKind.u64.wrap (s.uses + 1) } := if_pos rfl
      rw [this]; exact ⟨rfl, rfl, rfl⟩
    · have : (s.use key).ent k = s.ent k := if_neg e
      rw [this]; exact ⟨rfl, rfl, rfl⟩
  refine ⟨h.wm, h.wl, fun k => ?_, ?_, fun k hk => ?_, h.now, h.tnd⟩
  · rw [(he k).2.2]; exact h.sub k
  · show s.used = total (s.use key).ent s.main.keys
    rw [total_congr fun k _ => (he k).1]; exact h.used
  · rw [(he k).2.1, (he k).2.2]; exact h.key k hk
theorem use_vol (s : Sp α) (key : ByteArray) : (s.use key).vol = s.vol := rfl
theorem Ok.get {s : Sp α} (h : Ok s) (hv : s.vol ≤ 1099511627776) (key : ByteArray) : Ok (s.get key) ∧ (s.get key).vol ≤ s.vol := by
  have := h.met hv key
  unfold Sp.get
  split
  · exact ⟨this.1.use key, this.2⟩
  · exact this
theorem Ok.delete {s : Sp α} (h : Ok s) (hv : s.vol ≤ 1099511627776) (key : ByteArray) : Ok (s.delete key) ∧ (s.delete key).vol ≤ s.vol := by
  have := h.met hv key
  unfold Sp.delete
  split
  · rename_i ht
    have := this.1.goes (by omega) (h.there_mem ht).2
    exact ⟨this.1, by omega⟩
  · exact this
theorem met_steps {s : Sp α} (h : Ok s) {key : ByteArray} (ht : s.there key = true) : (s.met key).steps = s.steps := by rw [met_there h ht]; rfl
theorem Ok.evict {s : Sp α} (h : Ok s) (hv : s.vol ≤ 1099511627776) (key : ByteArray) : Ok (s.evict key) ∧ (s.evict key).vol ≤ s.vol := by
  have := h.met hv key
  unfold Sp.evict
  split
  · rename_i ht
    have h2 := this.1.goes (by omega) (h.there_mem ht).2
    refine ⟨⟨h2.1.wm, h2.1.wl, h2.1.sub, h2.1.used, h2.1.key, h2.1.now, h2.1.tnd⟩, ?_⟩
    have h3 := h2.2
    unfold vol at *
    have e : ((s.met key).goes key).steps = s.steps := by show (s.met key).steps = _; exact met_steps h ht
    rw [e] at h3
    simp only [List.length_append, List.length_cons, List.length_nil]
    omega
  · exact this

theorem Ok.met_gone {s : Sp α} (h : Ok s) (hv : s.vol ≤ 1099511627776) {key : ByteArray} (ht : s.there key = false) : key ∉ (s.met key).main.keys := by
  unfold Sp.met
  split
  · rename_i hc
    show key ∉ (s.main.step.delete key).keys
    rw [h.wm.step.1.mem_del (by rw [D.step_n]; exact (h.bound hv).1)]
    exact fun hm => hm.2 rfl
  · rename_i hc
    show key ∉ s.main.step.keys
    rw [h.wm.mem_step]
    intro hm
    have hh := h.has_iff.2 hm
    unfold Sp.there at ht
    rw [hh] at ht hc
    simp only [Bool.true_and, Bool.not_eq_false'] at ht
    rw [ht] at hc
    exact hc rfl
theorem nodup_split {l : List ByteArray} {key : ByteArray} (hn : l.Nodup) (hm : key ∈ l) : ∃ r, l.Perm (key :: r) ∧ key ∉ r := by
  obtain ⟨a, b, e⟩ := List.append_of_mem hm
  have p : l.Perm (key :: (a ++ b)) := by rw [e]; exact List.perm_middle
  exact ⟨a ++ b, p, (List.nodup_cons.1 (p.nodup_iff.1 hn)).1⟩
theorem total_other {ent ent' : ByteArray → PE} {key : ByteArray} {l : List ByteArray} (hk : key ∉ l) (he : ∀ k, k ≠ key → ent' k = ent k) : total ent' l = total ent l :=
  total_congr fun k hk' => by rw [he k fun e => hk (e ▸ hk')]
theorem Ok.lay_old {s : Sp α} (h : Ok s) (hv : s.vol ≤ 1099511627776) {key text : ByteArray} (a : α) (hk : key.size ≤ 1048576) (ht : text.size ≤ 1048576) (hm : key ∈ s.main.keys) :
    Ok ((s.unput key).lay key text a) ∧ ((s.unput key).lay key text a).vol ≤ s.vol := by
  obtain ⟨hn, hl, _, _⟩ := h.bound hv
  have hp := h.wm.set_keys_old hn (f := fun _ => a) (a := a) (key := key) (by omega) hm
  obtain ⟨r, hr, hkr⟩ := nodup_split h.wm.uniq hm
  have hent : ∀ k, k ≠ key → ((s.unput key).lay key text a).ent k = s.ent k := fun k hne => if_neg hne
  have hkey : ((s.unput key).lay key text a).ent key = ⟨text, 0, 0⟩ := if_pos rfl
  refine ⟨⟨(h.wm.set hn key _ a (by omega)).1, ?_, fun k => ?_, ?_, fun k hk' => ?_, h.now, h.tnd⟩, ?_⟩
  · show (if 0 < (s.ent key).at_ then s.late.delete key else s.late).WF
    split
    · exact (h.wl.delete hl key).1
    · exact h.wl
  · show k ∈ (if 0 < (s.ent key).at_ then s.late.delete key else s.late).keys ↔ k ∈ (s.main.set key (fun _ => a) a).keys ∧ 0 < (((s.unput key).lay key text a).ent k).at_
    rw [hp.mem_iff]
    by_cases e : k = key
    · subst e
      rw [hkey]
      split
      · rw [h.wl.mem_del hl]
        exact ⟨fun h => absurd rfl h.2, fun h => absurd h.2 (Int.lt_irrefl 0)⟩
      · rename_i hna
        rw [h.sub]
        exact ⟨fun h => absurd h.2 hna, fun h => absurd h.2 (Int.lt_irrefl 0)⟩
    · rw [hent k e]
      split
      · rw [h.wl.mem_del hl, h.sub]
        exact ⟨fun h => h.1, fun h => ⟨h, e⟩⟩
      · exact h.sub k
  · show s.used - costs key (s.ent key) + costs key ⟨text, 0, 0⟩ = total ((s.unput key).lay key text a).ent (s.main.set key (fun _ => a) a).keys
    rw [total_perm _ (hp.trans hr), total_cons, hkey, total_other hkr hent, h.used, total_perm _ hr, total_cons]
    omega
  · show k.size ≤ 1048576 ∧ (((s.unput key).lay key text a).ent k).text.size ≤ 1048576 ∧ 0 ≤ (((s.unput key).lay key text a).ent k).at_ ∧ (((s.unput key).lay key text a).ent k).at_ ≤ 9007199254740992
    by_cases e : k = key
    · subst e; rw [hkey]; exact ⟨hk, ht, Int.le_refl 0, (by decide : (0:Int) ≤ 9007199254740992)⟩
    · rw [hent k e]; exact h.key k (hp.mem_iff.1 hk')
  · have e : (s.main.set key (fun _ => a) a).n = s.main.n := by
      rw [(h.wm.set hn key _ a (by omega)).1.n_keys, h.wm.n_keys, hp.length_eq]
    unfold vol Sp.lay Sp.unput Sp.setEnt
    simp only [e]
    omega
theorem Ok.lay_new {s : Sp α} (h : Ok s) (hv : s.vol ≤ 1099511627776) {key text : ByteArray} (a : α) (hk : key.size ≤ 1048576) (ht : text.size ≤ 1048576) (hm : key ∉ s.main.keys) :
    Ok (s.lay key text a) ∧ (s.lay key text a).vol ≤ s.vol + 2 := by
  obtain ⟨hn, hl, _, _⟩ := h.bound hv
  have hp := h.wm.set_keys_new hn (f := fun _ => a) (a := a) (key := key) (by omega) hm
  have hent : ∀ k, k ≠ key → (s.lay key text a).ent k = s.ent k := fun k hne => if_neg hne
  have hkey : (s.lay key text a).ent key = ⟨text, 0, 0⟩ := if_pos rfl
  refine ⟨⟨(h.wm.set hn key _ a (by omega)).1, h.wl, fun k => ?_, ?_, fun k hk' => ?_, h.now, h.tnd⟩, ?_⟩
  · show k ∈ s.late.keys ↔ k ∈ (s.main.set key (fun _ => a) a).keys ∧ 0 < ((s.lay key text a).ent k).at_
    rw [hp.mem_iff, List.mem_cons]
    by_cases e : k = key
    · subst e
      rw [hkey]
      exact ⟨fun hh => absurd ((h.sub k).1 hh).1 hm, fun hh => absurd hh.2 (Int.lt_irrefl 0)⟩
    · rw [hent k e, h.sub]
      exact ⟨fun hh => ⟨.inr hh.1, hh.2⟩, fun hh => ⟨hh.1.resolve_left e, hh.2⟩⟩
  · show s.used + costs key ⟨text, 0, 0⟩ = total (s.lay key text a).ent (s.main.set key (fun _ => a) a).keys
    rw [total_perm _ hp, total_cons, hkey, total_other hm hent, h.used]
    omega
  · show k.size ≤ 1048576 ∧ ((s.lay key text a).ent k).text.size ≤ 1048576 ∧ 0 ≤ ((s.lay key text a).ent k).at_ ∧ ((s.lay key text a).ent k).at_ ≤ 9007199254740992
    by_cases e : k = key
    · subst e; rw [hkey]; exact ⟨hk, ht, Int.le_refl 0, (by decide : (0:Int) ≤ 9007199254740992)⟩
    · rw [hent k e]
      exact h.key k ((List.mem_cons.1 (hp.mem_iff.1 hk')).resolve_left e)
  · have e : (s.main.set key (fun _ => a) a).n = s.main.n + 1 := by
      rw [(h.wm.set hn key _ a (by omega)).1.n_keys, h.wm.n_keys, hp.length_eq]; rfl
    unfold vol Sp.lay Sp.setEnt
    simp only [e]
    omega
theorem touch_vol (s : Sp α) (key : ByteArray) : (s.touch key).vol ≤ s.vol + 1 := by
  have := withKey_len key s.touched
  unfold vol Sp.touch
  simp only
  omega
theorem Ok.put {s : Sp α} (h : Ok s) (hv : s.vol ≤ 1099511627776) {key text : ByteArray} (a : α) (hk : key.size ≤ 1048576) (ht : text.size ≤ 1048576) : Ok (s.put key text a) ∧ (s.put key text a).vol ≤ s.vol + 3 := by
  have hm := h.met hv key
  unfold Sp.put
  have key1 : Ok ((if s.there key then (s.met key).unput key else s.met key).lay key text a) ∧ ((if s.there key then (s.met key).unput key else s.met key).lay key text a).vol ≤ s.vol + 2 := by
    split
    · rename_i hth
      have := hm.1.lay_old (by omega) a hk ht (h.there_mem hth).2
      exact ⟨this.1, by omega⟩
    · rename_i hth
      have := hm.1.lay_new (by omega) a hk ht (h.met_gone hv (by simpa using hth))
      exact ⟨this.1, by omega⟩
  refine ⟨(key1.1.use key).touch key, ?_⟩
  have := touch_vol (((if s.there key then (s.met key).unput key else s.met key).lay key text a).use key) key
  rw [use_vol] at this
  omega
theorem Ok.dated {s : Sp α} (h : Ok s) (hv : s.vol ≤ 1099511627776) {key : ByteArray} {at_ : Int} (a : α) (hm : key ∈ s.main.keys) (h0 : 0 < at_) (h1 : at_ ≤ 9007199254740992) : Ok (s.dated key at_ a) ∧ (s.dated key at_ a).vol ≤ s.vol + 1 := by
  obtain ⟨hn, hl, _, _⟩ := h.bound hv
  have hk := h.key key hm
  obtain ⟨r, hr, hkr⟩ := nodup_split h.wm.uniq hm
  have hent : ∀ k, k ≠ key → (s.dated key at_ a).ent k = s.ent k := fun k hne => if_neg hne
  have hkey : (s.dated key at_ a).ent key = { s.ent key with at_ := at_ } := if_pos rfl
  refine ⟨⟨h.wm, (h.wl.set hl key _ a (by omega)).1, fun k => ?_, ?_, fun k hk' => ?_, h.now, withKey_nodup h.tnd⟩, ?_⟩
  · show k ∈ (s.late.set key (fun _ => a) a).keys ↔ k ∈ s.main.keys ∧ 0 < ((s.dated key at_ a).ent k).at_
    rw [h.wl.mem_set hl (by omega)]
    by_cases e : k = key
    · subst e; rw [hkey]; exact ⟨fun _ => ⟨hm, h0⟩, fun _ => .inl rfl⟩
    · rw [hent k e, h.sub]; exact ⟨fun hh => hh.resolve_left e, .inr⟩
  · show s.used - costs key (s.ent key) + costs key { s.ent key with at_ := at_ } = total (s.dated key at_ a).ent s.main.keys
    rw [total_perm _ hr, total_cons, hkey, total_other hkr hent, h.used, total_perm _ hr, total_cons]
    omega
  · show k.size ≤ 1048576 ∧ ((s.dated key at_ a).ent k).text.size ≤ 1048576 ∧ 0 ≤ ((s.dated key at_ a).ent k).at_ ∧ ((s.dated key at_ a).ent k).at_ ≤ 9007199254740992
    by_cases e : k = key
    · subst e; rw [hkey]; exact ⟨hk.1, hk.2.1, by show 0 ≤ at_; omega, h1⟩
    · rw [hent k e]; exact h.key k hk'
  · exact touch_vol s key
theorem Ok.setDeadline {s : Sp α} (h : Ok s) (hv : s.vol ≤ 1099511627776) (key : ByteArray) (at_ : Int) (a : α) : Ok (s.setDeadline key at_ a) ∧ (s.setDeadline key at_ a).vol ≤ s.vol + 1 := by
  have hm := h.met hv key
  unfold Sp.setDeadline
  split
  · exact ⟨hm.1, by omega⟩
  · rename_i hc
    simp only [Bool.or_eq_true, Bool.not_eq_true', decide_eq_true_eq, not_or, Bool.not_eq_false] at hc
    have hk := (h.there_mem hc.1).2
    split
    · have := hm.1.goes (by omega) hk
      exact ⟨this.1, by omega⟩
    · rename_i hlt
      have hnow := hm.1.now
      have := hm.1.dated (by omega) a hk (show 0 < at_ by omega) (by omega)
      exact ⟨this.1, by omega⟩
theorem Ok.undated {s : Sp α} (h : Ok s) (hv : s.vol ≤ 1099511627776) {key : ByteArray} (hm : key ∈ s.main.keys) (hd : (s.ent key).at_ ≠ 0) : Ok (s.undated key) ∧ (s.undated key).vol ≤ s.vol + 1 := by
  obtain ⟨hn, hl, _, _⟩ := h.bound hv
  have hk := h.key key hm
  obtain ⟨r, hr, hkr⟩ := nodup_split h.wm.uniq hm
  have hent : ∀ k, k ≠ key → (s.undated key).ent k = s.ent k := fun k hne => if_neg hne
  have hkey : (s.undated key).ent key = { s.ent key with at_ := 0 } := if_pos rfl
  have hc : costs key { s.ent key with at_ := 0 } = costs key (s.ent key) - 16 := by
    unfold costs
    simp only
    rw [if_neg (by omega), if_pos (by omega)]
    omega
  refine ⟨⟨h.wm, (h.wl.delete hl key).1, fun k => ?_, ?_, fun k hk' => ?_, h.now, withKey_nodup h.tnd⟩, ?_⟩
  · show k ∈ (s.late.delete key).keys ↔ k ∈ s.main.keys ∧ 0 < ((s.undated key).ent k).at_
    rw [h.wl.mem_del hl]
    by_cases e : k = key
    · subst e; rw [hkey]; exact ⟨fun hh => absurd rfl hh.2, fun hh => absurd hh.2 (by simp)⟩
    · rw [hent k e, h.sub]; exact ⟨fun hh => hh.1, fun hh => ⟨hh, e⟩⟩
  · show s.used - 16 = total (s.undated key).ent s.main.keys
    rw [total_perm _ hr, total_cons, hkey, total_other hkr hent, h.used, total_perm _ hr, total_cons, hc]
    omega
  · show k.size ≤ 1048576 ∧ ((s.undated key).ent k).text.size ≤ 1048576 ∧ 0 ≤ ((s.undated key).ent k).at_ ∧ ((s.undated key).ent k).at_ ≤ 9007199254740992
    by_cases e : k = key
    · subst e; rw [hkey]; exact ⟨hk.1, hk.2.1, Int.le_refl 0, (by decide : (0:Int) ≤ 9007199254740992)⟩
    · rw [hent k e]; exact h.key k hk'
  · exact touch_vol s key
theorem Ok.persist {s : Sp α} (h : Ok s) (hv : s.vol ≤ 1099511627776) (key : ByteArray) : Ok (s.persist key) ∧ (s.persist key).vol ≤ s.vol + 1 := by
  have hm := h.met hv key
  unfold Sp.persist
  split
  · rename_i hc
    simp only [Bool.and_eq_true, decide_eq_true_eq] at hc
    have hk := (h.there_mem hc.1).2
    have e : (s.met key).ent = s.ent := by rw [met_there h hc.1]; rfl
    have := hm.1.undated (by omega) hk (by rw [e]; exact hc.2)
    exact ⟨this.1, by omega⟩
  · exact ⟨hm.1, by omega⟩
theorem Ok.tick {s : Sp α} (h : Ok s) (now : Int) : Ok (s.tick now) ∧ (s.tick now).vol = s.vol := by
  unfold Sp.tick
  split
  · exact ⟨h, rfl⟩
  · rename_i hc
    refine ⟨⟨h.wm, h.wl, h.sub, h.used, h.key, ?_, h.tnd⟩, rfl⟩
    have := h.now
    simp only
    omega
theorem ok_mk0 (c : Cfg) : Ok (mk0 c : Sp α) :=
  ⟨D.wf_mk0 _, D.wf_mk0 _, fun k => by simp [mk0, D.mk0, D.keys, D.items], by simp [mk0, total, D.mk0, D.keys, D.items], fun k hk => by simp [mk0, D.mk0, D.keys, D.items] at hk, by simp [mk0], by simp [mk0]⟩

/-! ### What lies under the keys is not looked at -/
def map (f : α → β) (s : Sp α) : Sp β := { s with main := s.main.map f, late := s.late.map f }
theorem map_ok (f : α → β) {s : Sp α} : Ok (s.map f) ↔ Ok s := by
  have e1 : (s.map f).main.keys = s.main.keys := D.map_keys f _
  have e2 : (s.map f).late.keys = s.late.keys := D.map_keys f _
  constructor
  · intro h
    refine ⟨(D.map_wf f).1 h.wm, (D.map_wf f).1 h.wl, ?_, ?_, ?_, h.now, h.tnd⟩
    · have := h.sub; rw [e1, e2] at this; exact this
    · have := h.used; rw [e1] at this; exact this
    · have := h.key; rw [e1] at this; exact this
  · intro h
    refine ⟨(D.map_wf f).2 h.wm, (D.map_wf f).2 h.wl, ?_, ?_, ?_, h.now, h.tnd⟩
    · rw [e1, e2]; exact h.sub
    · rw [e1]; exact h.used
    · rw [e1]; exact h.key
theorem map_vol (f : α → β) (s : Sp α) : (s.map f).vol = s.vol := rfl
theorem map_has (f : α → β) (s : Sp α) (key : ByteArray) : (s.map f).has key = s.has key := by
  unfold has
  show ((s.main.map f).find key).isSome = _
  rw [D.map_find]; simp
theorem map_there (f : α → β) (s : Sp α) (key : ByteArray) : (s.map f).there key = s.there key := by
  unfold there
  rw [map_has]; rfl
theorem map_goes (f : α → β) (s : Sp α) (key : ByteArray) : (s.map f).goes key = (s.goes key).map f := by
  unfold goes map
  simp only [D.map_delete]
  congr 1
  split <;> rfl
theorem map_stepped (f : α → β) (s : Sp α) : (s.map f).stepped = s.stepped.map f := by unfold stepped map; simp only [D.map_step]
theorem map_expires (f : α → β) (s : Sp α) (key : ByteArray) : (s.map f).expires key = (s.expires key).map f := by
  unfold expires
  rw [map_goes]; rfl
theorem map_met (f : α → β) (s : Sp α) (key : ByteArray) : (s.map f).met key = (s.met key).map f := by
  unfold met
  rw [map_has, map_stepped, map_expires]
  show (if (s.has key && s.past (s.ent key).at_) = true then _ else _) = _
  split <;> rfl
theorem map_use (f : α → β) (s : Sp α) (key : ByteArray) : (s.map f).use key = (s.use key).map f := rfl
theorem map_touch (f : α → β) (s : Sp α) (key : ByteArray) : (s.map f).touch key = (s.touch key).map f := rfl
theorem map_get (f : α → β) (s : Sp α) (key : ByteArray) : (s.map f).get key = (s.get key).map f := by
  unfold get
  rw [map_there, map_met, map_use]; split <;> rfl
theorem map_delete (f : α → β) (s : Sp α) (key : ByteArray) : (s.map f).delete key = (s.delete key).map f := by
  unfold delete
  rw [map_there, map_met, map_goes]; split <;> rfl
theorem map_evict (f : α → β) (s : Sp α) (key : ByteArray) : (s.map f).evict key = (s.evict key).map f := by
  unfold evict
  rw [map_there, map_met, map_goes]; split <;> rfl
theorem map_unput (f : α → β) (s : Sp α) (key : ByteArray) : (s.map f).unput key = (s.unput key).map f := by
  unfold unput map
  simp only [D.map_delete]
  congr 1
  split <;> rfl
theorem map_lay (f : α → β) (s : Sp α) (key text : ByteArray) (a : α) : (s.map f).lay key text (f a) = (s.lay key text a).map f := by
  unfold lay map setEnt
  simp only
  congr 1
  exact D.map_set f (fun _ => a) (fun _ => f a) (fun _ => rfl) s.main key a
theorem map_put (f : α → β) (s : Sp α) (key text : ByteArray) (a : α) : (s.map f).put key text (f a) = (s.put key text a).map f := by
  unfold put
  rw [map_there, map_met, map_unput, ← map_touch, ← map_use, ← map_lay]
  split <;> rfl
theorem map_dated (f : α → β) (s : Sp α) (key : ByteArray) (at_ : Int) (a : α) : (s.map f).dated key at_ (f a) = (s.dated key at_ a).map f := by
  unfold dated map setEnt
  simp only
  congr 1
  exact D.map_set f (fun _ => a) (fun _ => f a) (fun _ => rfl) s.late key a
theorem map_setDeadline (f : α → β) (s : Sp α) (key : ByteArray) (at_ : Int) (a : α) : (s.map f).setDeadline key at_ (f a) = (s.setDeadline key at_ a).map f := by
  unfold setDeadline
  rw [map_there, map_met, map_goes, map_dated]
  show (if _ then _ else if at_ ≤ (s.met key).now then _ else _) = _
  split
  · rfl
  · split <;> rfl
theorem map_undated (f : α → β) (s : Sp α) (key : ByteArray) : (s.map f).undated key = (s.undated key).map f := by
  unfold undated map setEnt
  simp only [D.map_delete]
theorem map_persist (f : α → β) (s : Sp α) (key : ByteArray) : (s.map f).persist key = (s.persist key).map f := by
  unfold persist
  rw [map_there, map_met, map_undated]
  show (if (s.there key && decide ((s.ent key).at_ ≠ 0)) = true then _ else _) = _
  split <;> rfl
theorem map_tick (f : α → β) (s : Sp α) (now : Int) : (s.map f).tick now = (s.tick now).map f := by
  unfold tick
  split <;> rfl
theorem map_mk0 (f : α → β) (c : Cfg) : (mk0 c : Sp α).map f = mk0 c := rfl

/-! ### The two tables hold the same things -/
def Link (s : Sp α) : Prop := ∀ x ∈ s.late.items, x ∈ s.main.items
theorem link_mk0 (c : Cfg) : Link (mk0 c : Sp α) := fun x hx => by simp [mk0, D.mk0, D.items] at hx
theorem Link.stepped {s : Sp α} (h : Link s) (ok : Ok s) : Link s.stepped := fun x hx => ok.wm.step.2.mem_iff.2 (h x hx)
theorem Link.goes {s : Sp α} (h : Link s) (ok : Ok s) (hv : s.vol ≤ 1099511627776) (key : ByteArray) : Link (s.goes key) := by
  obtain ⟨hn, hl, _, _⟩ := ok.bound hv
  intro x hx
  show x ∈ (s.main.delete key).items
  rw [ok.wm.items_del hn]
  have hx' : x ∈ (if 0 < (s.ent key).at_ then s.late.delete key else s.late).items := hx
  split at hx'
  · rw [ok.wl.items_del hl] at hx'
    exact ⟨h x hx'.1, hx'.2⟩
  · rename_i ha
    exact ⟨h x hx', fun e => ha (e ▸ ((ok.sub x.1).1 (List.mem_map.2 ⟨x, hx', rfl⟩)).2)⟩
theorem Link.expires {s : Sp α} (h : Link s) (ok : Ok s) (hv : s.vol ≤ 1099511627776) (key : ByteArray) : Link (s.expires key) := h.goes ok hv key
theorem Link.met {s : Sp α} (h : Link s) (ok : Ok s) (hv : s.vol ≤ 1099511627776) (key : ByteArray) : Link (s.met key) := by
  unfold Sp.met
  split
  · exact (h.stepped ok).expires ok.stepped (by rw [stepped_vol]; exact hv) key
  · exact h.stepped ok
theorem Link.lay_old {s : Sp α} (h : Link s) (ok : Ok s) (hv : s.vol ≤ 1099511627776) {key : ByteArray} (text : ByteArray) (a : α) (hk : key.size ≤ 1048576) : Link ((s.unput key).lay key text a) := by
  obtain ⟨hn, hl, _, _⟩ := ok.bound hv
  intro x hx
  show x ∈ (s.main.set key (fun _ => a) a).items
  rw [ok.wm.items_set hn (by omega)]
  have hx' : x ∈ (if 0 < (s.ent key).at_ then s.late.delete key else s.late).items := hx
  split at hx'
  · rw [ok.wl.items_del hl] at hx'
    exact .inr ⟨h x hx'.1, hx'.2⟩
  · rename_i ha
    exact .inr ⟨h x hx', fun e => ha (e ▸ ((ok.sub x.1).1 (List.mem_map.2 ⟨x, hx', rfl⟩)).2)⟩
theorem Link.lay_new {s : Sp α} (h : Link s) (ok : Ok s) (hv : s.vol ≤ 1099511627776) {key : ByteArray} (text : ByteArray) (a : α) (hk : key.size ≤ 1048576) (hm : key ∉ s.main.keys) : Link (s.lay key text a) := by
  obtain ⟨hn, hl, _, _⟩ := ok.bound hv
  intro x hx
  show x ∈ (s.main.set key (fun _ => a) a).items
  rw [ok.wm.items_set hn (by omega)]
  exact .inr ⟨h x hx, fun e => hm (e ▸ List.mem_map.2 ⟨x, h x hx, rfl⟩)⟩
theorem Link.put {s : Sp α} (h : Link s) (ok : Ok s) (hv : s.vol ≤ 1099511627776) {key text : ByteArray} (a : α) (hk : key.size ≤ 1048576) : Link (s.put key text a) := by
  have hm := ok.met hv key
  have hl := h.met ok hv key
  show Link ((if s.there key then (s.met key).unput key else s.met key).lay key text a)
  split
  · exact hl.lay_old hm.1 (by omega) text a hk
  · rename_i hth
    exact hl.lay_new hm.1 (by omega) text a hk (ok.met_gone hv (by simpa using hth))
theorem Link.dated {s : Sp α} (h : Link s) (ok : Ok s) (hv : s.vol ≤ 1099511627776) {key : ByteArray} (at_ : Int) {a : α} (hm : (key, a) ∈ s.main.items) : Link (s.dated key at_ a) := by
  obtain ⟨hn, hl, _, _⟩ := ok.bound hv
  intro x hx
  have hx' : x ∈ (s.late.set key (fun _ => a) a).items := hx
  rw [ok.wl.items_set hl (by have := (ok.key key (D.mem_keys hm)).1; omega)] at hx'
  rcases hx' with rfl | hx'
  · exact hm
  · exact h x hx'.1
theorem Link.undated {s : Sp α} (h : Link s) (ok : Ok s) (hv : s.vol ≤ 1099511627776) (key : ByteArray) : Link (s.undated key) := by
  obtain ⟨hn, hl, _, _⟩ := ok.bound hv
  intro x hx
  have hx' : x ∈ (s.late.delete key).items := hx
  rw [ok.wl.items_del hl] at hx'
  exact h x hx'.1
end Sp
end Go.PS
