/-
  The table does not look at what lies under the keys; which key is picked, and that one is.
  Conditions: a right table where it is said. No program in sight.
-/
import Derived.Test.YtopkabhgkhjecaaGreatDictP
namespace Go.PS
open Go

namespace D
variable {α β : Type}

def mapC (f : α → β) (c : List (ByteArray × α)) : List (ByteArray × β) := c.map fun x => (x.1, f x.2)
def mapT (f : α → β) (t : List (List (ByteArray × α))) : List (List (ByteArray × β)) := t.map (mapC f)
def map (f : α → β) (d : D α) : D β := ⟨d.seed, mapT f d.old, mapT f d.young, d.at_, d.n⟩

theorem mapT_length (f : α → β) (t : List (List (ByteArray × α))) : (mapT f t).length = t.length := by simp [mapT]
theorem mapT_nil (f : α → β) {t : List (List (ByteArray × α))} : mapT f t = [] ↔ t = [] := by simp [mapT]
theorem mapT_get (f : α → β) (t : List (List (ByteArray × α))) (i : Nat) : (mapT f t)[i]? = (t[i]?).map (mapC f) := by simp [mapT]
theorem mapC_nil (f : α → β) {c : List (ByteArray × α)} : mapC f c = [] ↔ c = [] := by simp [mapC]
theorem mapT_modify (f : α → β) (t : List (List (ByteArray × α))) (i : Nat) (g : List (ByteArray × α) → List (ByteArray × α)) (g' : List (ByteArray × β) → List (ByteArray × β)) (h : ∀ c, mapC f (g c) = g' (mapC f c)) :
    mapT f (t.modify i g) = (mapT f t).modify i g' := by
  apply List.ext_getElem?
  intro j
  rw [mapT_get, List.getElem?_modify, List.getElem?_modify, mapT_get]
  cases t[j]? with
  | none => rfl
  | some c => by_cases e : i = j <;> simp [e, h]
theorem map_lay (f : α → β) (seed : Int) (t : List (List (ByteArray × α))) (x : ByteArray × α) : mapT f (lay seed t x) = lay seed (mapT f t) (x.1, f x.2) := by
  unfold lay
  rw [mapT_length]
  exact mapT_modify f t _ _ _ fun c => rfl
theorem map_layAll (f : α → β) (seed : Int) : ∀ (c : List (ByteArray × α)) (t : List (List (ByteArray × α))), mapT f (c.foldl (lay seed) t) = (mapC f c).foldl (lay seed) (mapT f t)
  | [], _ => rfl
  | x :: c, t => by
    rw [List.foldl_cons, map_layAll f seed c, map_lay]
    rfl
theorem map_pass (f : α → β) : ∀ (k : Nat) (t : List (List (ByteArray × α))) (a : Nat), pass k (mapT f t) a = pass k t a
  | 0, _, _ => rfl
  | k + 1, t, a => by
    unfold pass
    rw [mapT_get]
    cases t[a]? with
    | none => rfl
    | some c => cases c with
      | nil => exact map_pass f k t (a + 1)
      | cons x c => rfl
theorem map_move (f : α → β) (d : D α) : (d.map f).move = d.move.map f := by
  unfold move
  show (match (mapT f d.old)[d.at_]? with | some (e :: c) => _ | _ => _) = _
  rw [mapT_get]
  cases h : d.old[d.at_]? with
  | none => rfl
  | some c => cases c with
    | nil => rfl
    | cons x c =>
      show ({ d.map f with young := ((x.1, f x.2) :: mapC f c).foldl (lay d.seed) (mapT f d.young), old := (mapT f d.old).set d.at_ [], at_ := d.at_ + 1 } : D β) = _
      unfold map
      simp only
      congr 1
      · simp [mapT, List.map_set, mapC]
      · exact (map_layAll f d.seed (x :: c) d.young).symm
theorem map_turned (f : α → β) (d : D α) : (d.map f).turned = d.turned.map f := by
  unfold turned
  show (if d.at_ = (mapT f d.old).length then _ else _) = _
  rw [mapT_length]
  split <;> rfl
theorem map_step (f : α → β) (d : D α) : (d.map f).step = (d.step).map f := by
  unfold step
  show (if mapT f d.young = [] then _ else (({ d.map f with at_ := pass 10 (mapT f d.old) d.at_ } : D β).move).turned) = _
  rw [map_pass]
  by_cases h : d.young = []
  · rw [if_pos h, if_pos ((mapT_nil f).2 h)]
  · rw [if_neg h, if_neg (fun e => h ((mapT_nil f).1 e)), ← map_turned, ← map_move]
    rfl
theorem map_inChain (f : α → β) (c : List (ByteArray × α)) (key : ByteArray) : inChain (mapC f c) key = (inChain c key).map f := by
  unfold inChain mapC
  rw [List.find?_map]
  cases h : c.find? (fun e => decide (e.1 = key)) with
  | none =>
    have : c.find? ((fun e : ByteArray × β => decide (e.1 = key)) ∘ fun x => (x.1, f x.2)) = none := h
    rw [this]; rfl
  | some x =>
    have : c.find? ((fun e : ByteArray × β => decide (e.1 = key)) ∘ fun x => (x.1, f x.2)) = some x := h
    rw [this]; rfl
theorem map_inTab (f : α → β) (seed : Int) (t : List (List (ByteArray × α))) (key : ByteArray) : inTab seed (mapT f t) key = (inTab seed t key).map f := by
  unfold inTab
  rw [mapT_length, mapT_get]
  cases t[slot seed key t.length]? with
  | none => rfl
  | some c => exact map_inChain f c key
theorem map_find (f : α → β) (d : D α) (key : ByteArray) : (d.map f).find key = (d.find key).map f := by
  unfold find
  show (inTab d.seed (mapT f d.old) key).or (inTab d.seed (mapT f d.young) key) = _
  rw [map_inTab, map_inTab]
  cases inTab d.seed d.old key <;> simp
theorem map_idx (f : α → β) (c : List (ByteArray × α)) (key : ByteArray) : idx (mapC f c) key = idx c key := by
  unfold idx mapC
  rw [List.findIdx?_map]
  rfl
theorem map_updChain (f : α → β) (g : α → α) (g' : β → β) (hg : ∀ a, f (g a) = g' (f a)) (key : ByteArray) (c : List (ByteArray × α)) : mapC f (updChain key g c) = updChain key g' (mapC f c) := by
  unfold updChain
  rw [map_idx]
  cases idx c key with
  | none => rfl
  | some j =>
    show mapC f (c.modify j _) = (mapC f c).modify j _
    apply List.ext_getElem?
    intro i
    simp only [mapC, List.getElem?_map, List.getElem?_modify]
    cases c[i]? with
    | none => rfl
    | some x => by_cases e : j = i <;> simp [e, hg]
theorem map_delChain (f : α → β) (key : ByteArray) (c : List (ByteArray × α)) : mapC f (delChain key c) = delChain key (mapC f c) := by
  unfold delChain
  rw [map_idx]
  cases idx c key with
  | none => rfl
  | some j => simp [mapC, List.eraseIdx_eq_take_drop_succ]
theorem map_change (f : α → β) (d : D α) (key : ByteArray) (g : List (ByteArray × α) → List (ByteArray × α)) (g' : List (ByteArray × β) → List (ByteArray × β)) (h : ∀ c, mapC f (g c) = g' (mapC f c)) :
    (d.map f).change key g' = (d.change key g).map f := by
  unfold change
  show (if (inTab d.seed (mapT f d.old) key).isSome then ({ d.map f with old := atSlot d.seed (mapT f d.old) key g' } : D β) else { d.map f with young := atSlot d.seed (mapT f d.young) key g' }) = _
  rw [map_inTab]
  have e : ((inTab d.seed d.old key).map f).isSome = (inTab d.seed d.old key).isSome := by simp
  rw [e]
  unfold atSlot
  rw [mapT_length, mapT_length, ← mapT_modify f d.old _ g g' h, ← mapT_modify f d.young _ g g' h]
  split <;> rfl
theorem map_upd (f : α → β) (g : α → α) (g' : β → β) (hg : ∀ a, f (g a) = g' (f a)) (d : D α) (key : ByteArray) : (d.map f).upd key g' = (d.upd key g).map f :=
  map_change f d key _ _ fun c => map_updChain f g g' hg key c
theorem map_grown (f : α → β) (d : D α) : (d.map f).grown = d.grown.map f := by
  unfold grown
  show (if mapT f d.old = [] then ({ d.map f with old := List.replicate 4 [] } : D β) else if mapT f d.young = [] ∧ (mapT f d.old).length ≤ d.n then { d.map f with young := List.replicate (2 * (mapT f d.old).length) [] } else d.map f) = _
  rw [mapT_length]
  have hr : ∀ k, (List.replicate k ([] : List (ByteArray × β))) = mapT f (List.replicate k []) := fun k => by simp [mapT, mapC]
  by_cases h : d.old = []
  · rw [if_pos h, if_pos ((mapT_nil f).2 h), hr]; rfl
  · rw [if_neg h, if_neg (fun e => h ((mapT_nil f).1 e))]
    by_cases h2 : d.young = [] ∧ d.old.length ≤ d.n
    · rw [if_pos h2, if_pos ⟨(mapT_nil f).2 h2.1, h2.2⟩, hr]; rfl
    · rw [if_neg h2, if_neg (fun e => h2 ⟨(mapT_nil f).1 e.1, e.2⟩)]
theorem map_insert (f : α → β) (d : D α) (key : ByteArray) (a : α) : (d.map f).insert key (f a) = (d.insert key a).map f := by
  unfold insert
  rw [map_grown]
  show (if mapT f d.grown.young = [] then ({ d.grown.map f with old := lay d.seed (mapT f d.grown.old) (key, f a), n := d.n + 1 } : D β) else { d.grown.map f with young := lay d.seed (mapT f d.grown.young) (key, f a), n := d.n + 1 }) = _
  have e := map_lay f d.seed d.grown.old (key, a)
  have e2 := map_lay f d.seed d.grown.young (key, a)
  simp only at e e2
  rw [← e, ← e2]
  by_cases h : d.grown.young = []
  · rw [if_pos h, if_pos ((mapT_nil f).2 h)]; rfl
  · rw [if_neg h, if_neg (fun e => h ((mapT_nil f).1 e))]; rfl
theorem map_set (f : α → β) (g : α → α) (g' : β → β) (hg : ∀ a, f (g a) = g' (f a)) (d : D α) (key : ByteArray) (a : α) : (d.map f).set key g' (f a) = (d.set key g a).map f := by
  unfold set
  rw [map_step, map_find, map_upd f g g' hg, map_insert]
  have e : ((d.step.find key).map f).isSome = (d.step.find key).isSome := by simp
  rw [e]
  split <;> rfl
theorem map_shrunk (f : α → β) (d : D α) : (d.map f).shrunk = d.shrunk.map f := by
  unfold shrunk
  show (if mapT f d.young = [] ∧ 4 < (mapT f d.old).length ∧ 8 * d.n ≤ (mapT f d.old).length then ({ d.map f with young := List.replicate (least 64 d.n 4) [] } : D β) else d.map f) = _
  rw [mapT_length]
  have hr : ∀ k, (List.replicate k ([] : List (ByteArray × β))) = mapT f (List.replicate k []) := fun k => by simp [mapT, mapC]
  rw [hr]
  by_cases h : d.young = [] ∧ 4 < d.old.length ∧ 8 * d.n ≤ d.old.length
  · rw [if_pos h, if_pos ⟨(mapT_nil f).2 h.1, h.2⟩]; rfl
  · rw [if_neg h, if_neg (fun e => h ⟨(mapT_nil f).1 e.1, e.2⟩)]
theorem map_delete (f : α → β) (d : D α) (key : ByteArray) : (d.map f).delete key = (d.delete key).map f := by
  unfold delete
  rw [map_step, map_find, map_change f d.step key (delChain key) (delChain key) (fun c => map_delChain f key c)]
  have e : ((d.step.find key).map f).isSome = (d.step.find key).isSome := by simp
  rw [e]
  split
  · exact map_shrunk f { d.step.change key (delChain key) with n := d.n - 1 }
  · rfl
theorem map_items (f : α → β) (d : D α) : (d.map f).items = mapC f d.items := by
  unfold items map mapT mapC
  simp [List.map_flatten]
theorem map_keys (f : α → β) (d : D α) : (d.map f).keys = d.keys := by
  unfold keys
  rw [map_items]
  simp [mapC]
theorem map_rows (f : α → β) (d : D α) : (d.map f).rows = mapT f d.rows := by
  unfold rows map mapT
  simp [List.map_drop]
theorem map_probe (f : α → β) (r : List (List (ByteArray × α))) : ∀ (k i : Nat), probe (mapT f r) k i = (probe r k i).map (mapC f)
  | 0, _ => rfl
  | k + 1, i => by
    unfold probe
    rw [mapT_length, mapT_get]
    cases r[i % r.length]? with
    | none => exact map_probe f r k (i + 1)
    | some c => cases c with
      | nil => exact map_probe f r k (i + 1)
      | cons x c => rfl
theorem map_sample (f : α → β) (d : D α) (r : Nat) : (d.map f).sample r = d.sample r := by
  unfold sample
  show (if d.n = 0 then none else (probe (d.map f).rows (d.map f).rows.length (r % (d.map f).rows.length)).bind fun c => (c[r / (d.map f).rows.length % c.length]?).map (·.1)) = _
  rw [map_rows, mapT_length, map_probe]
  split
  · rfl
  · cases probe d.rows d.rows.length (r % d.rows.length) with
    | none => rfl
    | some c =>
      show ((mapC f c)[r / d.rows.length % (mapC f c).length]?).map (·.1) = (c[r / d.rows.length % c.length]?).map (·.1)
      unfold mapC
      simp
      rfl
theorem map_all (f : α → β) (d : D α) : (d.map f).all = mapC f d.all := by
  unfold all map mapT mapC
  simp [List.map_flatten, List.map_drop]
theorem slotted_map (f : α → β) {seed : Int} {t : List (List (ByteArray × α))} : Slotted seed (mapT f t) ↔ Slotted seed t := by
  constructor
  · intro h i c hc x hx
    have := h i (mapC f c) (by rw [mapT_get, hc]; rfl) (x.1, f x.2) (List.mem_map.2 ⟨x, hx, rfl⟩)
    rwa [mapT_length] at this
  · intro h i c hc x hx
    rw [mapT_get] at hc
    cases hc0 : t[i]? with
    | none => rw [hc0] at hc; cases hc
    | some c0 =>
      rw [hc0] at hc
      simp only [Option.map_some, Option.some.injEq] at hc
      subst hc
      obtain ⟨y, hy, rfl⟩ := List.mem_map.1 hx
      rw [mapT_length]
      exact h i c0 hc0 y hy
theorem keys_mapT (f : α → β) {t : List (List (ByteArray × α))} {p : ByteArray → Prop} : (∀ c ∈ mapT f t, ∀ x ∈ c, p x.1) ↔ (∀ c ∈ t, ∀ x ∈ c, p x.1) := by
  constructor
  · intro h c hc x hx
    exact h (mapC f c) (List.mem_map.2 ⟨c, hc, rfl⟩) (x.1, f x.2) (List.mem_map.2 ⟨x, hx, rfl⟩)
  · intro h c hc x hx
    obtain ⟨c0, hc0, rfl⟩ := List.mem_map.1 hc
    obtain ⟨y, hy, rfl⟩ := List.mem_map.1 hx
    exact h c0 hc0 y hy
theorem map_wf (f : α → β) {d : D α} : WF (d.map f) ↔ WF d := by
  have hb : (∀ (i : Nat) c, i < d.at_ → (mapT f d.old)[i]? = some c → c = []) ↔ (∀ (i : Nat) c, i < d.at_ → d.old[i]? = some c → c = []) := by
    constructor
    · intro h i c hi hc
      have := h i (mapC f c) hi (by rw [mapT_get, hc]; rfl)
      exact (mapC_nil f).1 this
    · intro h i c hi hc
      rw [mapT_get] at hc
      cases hc0 : d.old[i]? with
      | none => rw [hc0] at hc; cases hc
      | some c0 =>
        rw [hc0] at hc
        simp only [Option.map_some, Option.some.injEq] at hc
        rw [← hc, h i c0 hi hc0]; rfl
  have hl1 : (d.map f).old.length = d.old.length := mapT_length f _
  have hl2 : (d.map f).young.length = d.young.length := mapT_length f _
  have hi : (d.map f).items.length = d.items.length := by rw [map_items]; simp [mapC]
  have e1 : (d.map f).old = [] ↔ d.old = [] := mapT_nil f
  have e2 : (d.map f).young = [] ↔ d.young = [] := mapT_nil f
  constructor
  · intro h
    refine ⟨⟨?_, ?_, ?_, ?_, ?_, ?_⟩, (slotted_map f).1 h.slotO, (slotted_map f).1 h.slotY, hb.1 h.before, ?_, ?_, ?_, ?_⟩
    · have := h.ok.at_le; rw [hl1] at this; exact this
    · have := h.ok.lo; rwa [hl1] at this
    · have := h.ok.ly; rwa [hl2] at this
    · exact fun a b => h.ok.yo (fun e => a (e2.1 e)) (e1.2 b)
    · exact (keys_mapT f (p := fun k => k.size ≤ 9223372036854775806)).1 h.ok.keysO
    · exact (keys_mapT f (p := fun k => k.size ≤ 9223372036854775806)).1 h.ok.keysY
    · have := h.uniq; rwa [map_keys] at this
    · have := h.count; rw [hi] at this; exact this
    · exact fun e => h.atY (e2.2 e)
    · intro e; have := h.atLt (fun q => e (e2.1 q)); rw [hl1] at this; exact this
  · intro h
    refine ⟨⟨?_, ?_, ?_, ?_, ?_, ?_⟩, (slotted_map f).2 h.slotO, (slotted_map f).2 h.slotY, hb.2 h.before, ?_, ?_, ?_, ?_⟩
    · rw [hl1]; exact h.ok.at_le
    · rw [hl1]; exact h.ok.lo
    · rw [hl2]; exact h.ok.ly
    · exact fun a b => h.ok.yo (fun e => a (e2.2 e)) (e1.1 b)
    · exact (keys_mapT f (p := fun k => k.size ≤ 9223372036854775806)).2 h.ok.keysO
    · exact (keys_mapT f (p := fun k => k.size ≤ 9223372036854775806)).2 h.ok.keysY
    · rw [map_keys]; exact h.uniq
    · rw [hi]; exact h.count
    · exact fun e => h.atY (e2.1 e)
    · intro e; rw [hl1]; exact h.atLt (fun q => e (e2.2 q))

/-! ### All, and one that is picked -/
theorem WF.flatten_old {d : D α} (h : WF d) : d.old.flatten = (d.old.drop d.at_).flatten := by
  have e : d.old = d.old.take d.at_ ++ d.old.drop d.at_ := (List.take_append_drop _ _).symm
  conv => lhs; rw [e]
  rw [List.flatten_append]
  have : (d.old.take d.at_).flatten = [] := by
    rw [List.flatten_eq_nil_iff]
    intro c hc
    obtain ⟨i, hi⟩ := List.mem_iff_getElem?.1 hc
    rw [List.getElem?_take] at hi
    split at hi
    · rename_i hlt; exact h.before i c hlt hi
    · cases hi
  rw [this]; rfl
theorem WF.all_eq {d : D α} (h : WF d) : d.all = d.items := by
  unfold all items
  rw [h.flatten_old]
theorem rows_flatten (d : D α) : d.rows.flatten = d.all := by simp [rows, all]
theorem probe_mem {rows : List (List (ByteArray × α))} : ∀ (k i : Nat) {c : List (ByteArray × α)}, probe rows k i = some c → c ∈ rows ∧ c ≠ []
  | 0, _, _, h => by cases h
  | k + 1, i, c, h => by
    unfold probe at h
    split at h
    · rename_i x c' hc
      rw [← Option.some.inj h]
      exact ⟨List.mem_of_getElem? hc, by simp⟩
    · exact probe_mem k (i + 1) h
theorem probe_isSome {rows : List (List (ByteArray × α))} {q : Nat} {c : List (ByteArray × α)} (hq : rows[q]? = some c) (hc : c ≠ []) : ∀ (k i : Nat), (∃ j, j < k ∧ (i + j) % rows.length = q) → ∃ c', probe rows k i = some c'
  | 0, _, ⟨j, hj, _⟩ => by omega
  | k + 1, i, ⟨j, hj, hjq⟩ => by
    unfold probe
    split
    · rename_i x c' _; exact ⟨_, rfl⟩
    · rename_i hno
      cases j with
      | zero =>
        rw [Nat.add_zero] at hjq
        rw [hjq, hq] at hno
        cases c with
        | nil => exact absurd rfl hc
        | cons x c => exact absurd rfl (hno x c)
      | succ j => exact probe_isSome hq hc k (i + 1) ⟨j, by omega, by rw [← hjq]; congr 1; omega⟩
theorem sample_mem {d : D α} {r : Nat} {k : ByteArray} (h : d.sample r = some k) : k ∈ d.all.map (·.1) := by
  unfold sample at h
  split at h
  · cases h
  · cases hp : probe d.rows d.rows.length (r % d.rows.length) with
    | none => rw [hp] at h; cases h
    | some c =>
      rw [hp] at h
      simp only [Option.bind_some] at h
      obtain ⟨h1, _⟩ := probe_mem _ _ hp
      cases hx : c[r / d.rows.length % c.length]? with
      | none => rw [hx] at h; cases h
      | some x =>
        rw [hx] at h
        rw [← rows_flatten]
        refine List.mem_map.2 ⟨x, List.mem_flatten.2 ⟨c, h1, List.mem_of_getElem? hx⟩, ?_⟩
        simpa using h
theorem WF.some_row {d : D α} (h : WF d) (hn : d.n ≠ 0) : ∃ c ∈ d.rows, c ≠ [] := by
  rw [h.count, ← h.all_eq, ← rows_flatten] at hn
  have : d.rows.flatten ≠ [] := fun e => hn (by rw [e]; rfl)
  obtain ⟨x, hx⟩ := List.exists_mem_of_ne_nil _ this
  obtain ⟨c, hc, hxc⟩ := List.mem_flatten.1 hx
  exact ⟨c, hc, fun e => by rw [e] at hxc; cases hxc⟩
theorem WF.sample_some {d : D α} (h : WF d) (hn : d.n ≠ 0) (r : Nat) : ∃ k, d.sample r = some k ∧ k ∈ d.keys := by
  obtain ⟨c, hc, hne⟩ := h.some_row hn
  obtain ⟨q, hq⟩ := List.mem_iff_getElem?.1 hc
  have hql := (List.getElem?_eq_some_iff.1 hq).1
  have hex : ∃ j, j < d.rows.length ∧ (r % d.rows.length + j) % d.rows.length = q := by
    have hr := Nat.mod_lt r (show 0 < d.rows.length by omega)
    by_cases hle : r % d.rows.length ≤ q
    · exact ⟨q - r % d.rows.length, by omega, by rw [Nat.add_sub_cancel' hle]; exact Nat.mod_eq_of_lt hql⟩
    · refine ⟨q + d.rows.length - r % d.rows.length, by omega, ?_⟩
      rw [show r % d.rows.length + (q + d.rows.length - r % d.rows.length) = q + d.rows.length by omega, Nat.add_mod_right]
      exact Nat.mod_eq_of_lt hql
  obtain ⟨c', hc'⟩ := probe_isSome hq hne d.rows.length (r % d.rows.length) hex
  have hne' := (probe_mem _ _ hc').2
  have hlt : r / d.rows.length % c'.length < c'.length := Nat.mod_lt _ (List.length_pos_iff.2 hne')
  have hs : d.sample r = some (c'[r / d.rows.length % c'.length]).1 := by
    unfold sample
    rw [if_neg hn, hc']
    simp [List.getElem?_eq_getElem hlt]
  refine ⟨_, hs, ?_⟩
  have := sample_mem hs
  rwa [h.all_eq] at this
theorem sample_none {d : D α} (hn : d.n = 0) (r : Nat) : d.sample r = none := by
  unfold sample; rw [if_pos hn]
/-- An empty one. -/
def mk0 (seed : Int) : D α := ⟨seed, [], [], 0, 0⟩
theorem wf_mk0 (seed : Int) : WF (mk0 seed : D α) := by
  refine ⟨⟨by simp [mk0], by simp [mk0], by simp [mk0], fun h => absurd rfl h, by simp [mk0], by simp [mk0]⟩, ?_, ?_, ?_, by simp [keys, items, mk0], by simp [items, mk0], fun _ => rfl, fun h => absurd rfl h⟩
  · intro i c h; simp [mk0] at h
  · intro i c h; simp [mk0] at h
  · intro i c h; simp [mk0] at h
theorem map_mk0 (f : α → β) (seed : Int) : (mk0 seed : D α).map f = mk0 seed := rfl
end D
end Go.PS
