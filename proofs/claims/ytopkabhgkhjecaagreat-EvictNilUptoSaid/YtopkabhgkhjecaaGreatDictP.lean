/-
  The table as a finite map: what each of its calls does to the things in it; and that it does not look at what lies under the keys.
  Conditions: a right table. No program in sight.
-/
import Derived.Test.YtopkabhgkhjecaaGreatDictM
namespace Go.PS
open Go

namespace D
variable {α β : Type}

def items (d : D α) : List (ByteArray × α) := d.old.flatten ++ d.young.flatten
def keys (d : D α) : List ByteArray := d.items.map (·.1)

/-- Each key lies in its bucket. -/
def Slotted (seed : Int) (t : List (List (ByteArray × α))) : Prop := ∀ (i : Nat) c, t[i]? = some c → ∀ x ∈ c, slot seed x.1 t.length = i

structure WF (d : D α) : Prop where
  ok : DOk d
  slotO : Slotted d.seed d.old
  slotY : Slotted d.seed d.young
  before : ∀ (i : Nat) c, i < d.at_ → d.old[i]? = some c → c = []
  uniq : d.keys.Nodup
  count : d.n = d.items.length
  atY : d.young = [] → d.at_ = 0
  atLt : d.young ≠ [] → d.at_ < d.old.length

theorem nodupP {l m : List (ByteArray × α)} (p : l.Perm m) (h : (m.map (·.1)).Nodup) : (l.map (·.1)).Nodup := (p.map (·.1)).nodup_iff.2 h
theorem mem_keys {d : D α} {k : ByteArray} {a : α} (h : (k, a) ∈ d.items) : k ∈ d.keys := List.mem_map.2 ⟨(k, a), h, rfl⟩
theorem inChain_mem {c : List (ByteArray × α)} {key : ByteArray} {a : α} (h : inChain c key = some a) : (key, a) ∈ c := by
  unfold inChain at h
  cases hf : c.find? (fun e => e.1 = key) with
  | none => rw [hf] at h; cases h
  | some x =>
    rw [hf] at h
    have h1 := List.find?_some hf
    have h2 := List.mem_of_find?_eq_some hf
    simp at h h1
    obtain ⟨k, b⟩ := x
    simp at h h1
    subst h; subst h1
    exact h2
theorem inTab_mem {seed : Int} {t : List (List (ByteArray × α))} {key : ByteArray} {a : α} (h : inTab seed t key = some a) : (key, a) ∈ t.flatten := by
  unfold inTab at h
  split at h
  · rename_i c hc
    exact List.mem_flatten.2 ⟨c, List.mem_of_getElem? hc, inChain_mem h⟩
  · cases h
theorem inChain_some {c : List (ByteArray × α)} {key : ByteArray} {a : α} (h : (key, a) ∈ c) : ∃ b, inChain c key = some b := by
  unfold inChain
  cases hf : c.find? (fun e => e.1 = key) with
  | some x => exact ⟨x.2, rfl⟩
  | none =>
    have := List.find?_eq_none.1 hf _ h
    simp at this
theorem inTab_some {seed : Int} {t : List (List (ByteArray × α))} (hs : Slotted seed t) {key : ByteArray} {a : α} (h : (key, a) ∈ t.flatten) : ∃ b, inTab seed t key = some b := by
  obtain ⟨c, hc, hx⟩ := List.mem_flatten.1 h
  obtain ⟨i, hi⟩ := List.mem_iff_getElem?.1 hc
  have := hs i c hi _ hx
  unfold inTab
  rw [this, hi]
  exact inChain_some hx
theorem nodup_val {l : List (ByteArray × α)} (hn : (l.map (·.1)).Nodup) {k : ByteArray} {a b : α} (ha : (k, a) ∈ l) (hb : (k, b) ∈ l) : a = b := by
  induction l with
  | nil => cases ha
  | cons x r ih =>
    simp only [List.map_cons, List.nodup_cons] at hn
    rcases List.mem_cons.1 ha with ha | ha <;> rcases List.mem_cons.1 hb with hb | hb
    · rw [← ha] at hb; exact (Prod.mk.inj hb).2.symm
    · exact absurd (List.mem_map.2 ⟨_, hb, by rw [← ha]⟩) hn.1
    · exact absurd (List.mem_map.2 ⟨_, ha, by rw [← hb]⟩) hn.1
    · exact ih hn.2 ha hb
theorem WF.find_iff {d : D α} (h : WF d) {key : ByteArray} {a : α} : d.find key = some a ↔ (key, a) ∈ d.items := by
  have h1 : ∀ b, d.find key = some b → (key, b) ∈ d.items := by
    intro b hb
    unfold find at hb
    rcases Option.or_eq_some_iff.1 hb with hb | ⟨_, hb⟩
    · exact List.mem_append_left _ (inTab_mem hb)
    · exact List.mem_append_right _ (inTab_mem hb)
  refine ⟨h1 a, fun hm => ?_⟩
  have h2 : ∃ b, d.find key = some b := by
    unfold find
    rcases List.mem_append.1 hm with hm | hm
    · obtain ⟨b, hb⟩ := inTab_some h.slotO hm
      exact ⟨b, by rw [hb]; rfl⟩
    · obtain ⟨b, hb⟩ := inTab_some h.slotY hm
      cases ho : inTab d.seed d.old key with
      | some x => exact ⟨x, rfl⟩
      | none => exact ⟨b, by rw [hb]; rfl⟩
  obtain ⟨b, hb⟩ := h2
  rw [hb, nodup_val h.uniq hm (h1 b hb)]
theorem WF.find_none {d : D α} (h : WF d) {key : ByteArray} : d.find key = none ↔ key ∉ d.keys := by
  constructor
  · intro hn hm
    obtain ⟨⟨k, a⟩, hx, rfl⟩ := List.mem_map.1 hm
    rw [h.find_iff.2 hx] at hn; cases hn
  · intro hn
    cases hf : d.find key with
    | none => rfl
    | some a => exact absurd (List.mem_map.2 ⟨_, h.find_iff.1 hf, rfl⟩) hn
theorem WF.find_isSome {d : D α} (h : WF d) {key : ByteArray} : (d.find key).isSome ↔ key ∈ d.keys := by
  cases hf : d.find key with
  | none => simpa using h.find_none.1 hf
  | some a => exact ⟨fun _ => mem_keys (h.find_iff.1 hf), fun _ => rfl⟩

/-! ### Tables with one bucket changed -/
theorem modify_perm {t : List (List (ByteArray × α))} {i : Nat} {c : List (ByteArray × α)} {g : List (ByteArray × α) → List (ByteArray × α)} (h : t[i]? = some c) :
    ∃ Z, t.flatten.Perm (c ++ Z) ∧ (t.modify i g).flatten.Perm (g c ++ Z) := by
  obtain ⟨hi, hc⟩ := List.getElem?_eq_some_iff.1 h
  refine ⟨(t.take i).flatten ++ (t.drop (i + 1)).flatten, ?_, ?_⟩
  · have e : t = t.take i ++ c :: t.drop (i + 1) := by
      rw [← hc, List.getElem_cons_drop, List.take_append_drop]
    have e2 : t.flatten = (t.take i).flatten ++ (c ++ (t.drop (i + 1)).flatten) := by
      conv => lhs; rw [e]
      rw [List.flatten_append, List.flatten_cons]
    rw [e2]
    refine (List.perm_append_comm_assoc _ _ _)
  · have e : t.modify i g = t.take i ++ g c :: t.drop (i + 1) := by
      rw [List.modify_eq_take_cons_drop hi, hc]
    rw [e, List.flatten_append, List.flatten_cons]
    exact (List.perm_append_comm_assoc _ _ _)
theorem slotted_modify {seed : Int} {t : List (List (ByteArray × α))} (hs : Slotted seed t) {i : Nat} {g : List (ByteArray × α) → List (ByteArray × α)} (hg : ∀ c, t[i]? = some c → ∀ x ∈ g c, slot seed x.1 t.length = i) : Slotted seed (t.modify i g) := by
  intro j c hj x hx
  rw [List.length_modify]
  rw [List.getElem?_modify] at hj
  cases hc : t[j]? with
  | none => rw [hc] at hj; cases hj
  | some c0 =>
    rw [hc] at hj
    simp only [Option.map_eq_map, Option.map_some, Option.some.injEq] at hj
    by_cases e : i = j
    · subst e
      rw [if_pos rfl] at hj
      subst hj
      exact hg c0 hc x hx
    · rw [if_neg e] at hj
      subst hj
      exact hs j c0 hc x hx
theorem slotted_lay {seed : Int} {t : List (List (ByteArray × α))} (hs : Slotted seed t) (x : ByteArray × α) : Slotted seed (lay seed t x) := by
  refine slotted_modify hs ?_
  intro c hc y hy
  rcases List.mem_cons.1 hy with rfl | hy
  · rfl
  · exact hs _ c hc y hy
theorem lay_perm {seed : Int} {t : List (List (ByteArray × α))} {x : ByteArray × α} (h : t ≠ []) (hl : t.length ≤ 9223372036854775807) : (lay seed t x).flatten.Perm (x :: t.flatten) := by
  have hlt := (slot_lt (seed := seed) (key := x.1) (List.length_pos_iff.2 h) hl).2.2
  obtain ⟨Z, h1, h2⟩ := modify_perm (g := (x :: ·)) (List.getElem?_eq_getElem hlt)
  exact h2.trans (List.Perm.cons x h1.symm)
theorem layAll {seed : Int} : ∀ (c : List (ByteArray × α)) {t : List (List (ByteArray × α))}, t ≠ [] → t.length ≤ 9223372036854775807 → Slotted seed t → Slotted seed (c.foldl (lay seed) t) ∧ (c.foldl (lay seed) t).flatten.Perm (c ++ t.flatten)
  | [], _, _, _, hs => ⟨hs, .refl _⟩
  | x :: c, t, h, hl, hs => by
    have hlen : (lay seed t x).length = t.length := D.lay_length seed t x
    have h' : lay seed t x ≠ [] := fun e => h (List.length_eq_zero_iff.1 (by rw [← hlen, e]; rfl))
    obtain ⟨h1, h2⟩ := layAll c h' (by omega) (slotted_lay hs x)
    refine ⟨h1, h2.trans ?_⟩
    exact ((lay_perm h hl).append_left c).trans List.perm_middle

/-! ### A step -/
theorem pass_before {t : List (List (ByteArray × α))} : ∀ (k a : Nat), (∀ (i : Nat) c, i < a → t[i]? = some c → c = []) → ∀ (i : Nat) c, i < pass k t a → t[i]? = some c → c = []
  | 0, _, h => h
  | k + 1, a, h => by
    unfold pass
    split
    · rename_i he
      refine pass_before k (a + 1) fun i c hi hc => ?_
      by_cases e : i = a
      · subst e; rw [he] at hc; exact (Option.some.inj hc).symm
      · exact h i c (by omega) hc
    · exact h
theorem flatten_nil_of {t : List (List (ByteArray × α))} (h : ∀ (i : Nat) c, i < t.length → t[i]? = some c → c = []) : t.flatten = [] := by
  rw [List.flatten_eq_nil_iff]
  intro c hc
  obtain ⟨i, hi⟩ := List.mem_iff_getElem?.1 hc
  exact h i c (List.getElem?_eq_some_iff.1 hi).1 hi

/-- What stays as it is over a step and is not 'at_ < length'. -/
structure Mid (d e : D α) : Prop where
  ok : DOk e
  slotO : Slotted e.seed e.old
  slotY : Slotted e.seed e.young
  before : ∀ (i : Nat) c, i < e.at_ → e.old[i]? = some c → c = []
  perm : e.items.Perm d.items
  n : e.n = d.n
  seed : e.seed = d.seed
  young : e.young ≠ []
  old : e.old ≠ []

theorem WF.step {d : D α} (h : WF d) : WF d.step ∧ d.step.items.Perm d.items := by
  have hok := h.ok.step
  by_cases hy : d.young = []
  · have e : d.step = d := by unfold D.step; rw [if_pos hy]
    rw [e]; exact ⟨h, .refl _⟩
  · have ho := h.ok.yo hy
    have hlt := h.atLt hy
    have es : d.step = (({ d with at_ := pass 10 d.old d.at_ } : D α).move).turned := by unfold D.step; rw [if_neg hy]
    have hp := pass_le d.old 10 d.at_ h.ok.at_le
    have hb := pass_before (t := d.old) 10 d.at_ h.before
    generalize pass 10 d.old d.at_ = a at *
    have hm : Mid d ({ d with at_ := a } : D α).move := by
      unfold move
      split
      · rename_i x c he
        simp only at he
        have hsz := (List.getElem?_eq_some_iff.1 he).1
        obtain ⟨h1, h2⟩ := layAll (seed := d.seed) (x :: c) hy (by have := h.ok.ly; omega) h.slotY
        have hne : (x :: c).foldl (lay d.seed) d.young ≠ [] := by
          intro hh
          have := D.layAll_length d.seed (x :: c) d.young
          rw [hh] at this
          exact hy (List.length_eq_zero_iff.1 this.symm)
        have hmem := List.mem_of_getElem? he
        have hset : d.old.set a [] = d.old.modify a (fun _ => []) := by
          apply List.ext_getElem?
          intro j
          rw [List.getElem?_set, List.getElem?_modify]
          by_cases e : a = j
          · subst e; simp [hsz, he]
          · simp [e]
        refine ⟨⟨?_, by simpa using h.ok.lo, by simp only [D.layAll_length]; exact h.ok.ly, fun _ => ?_, ?_, ?_⟩, ?_, h1, ?_, ?_, rfl, rfl, hne, ?_⟩
        · simp only [List.length_set]; exact hsz
        · intro hh; have := congrArg List.length hh; simp at this; exact ho this
        · intro c' hc' y hy'
          rcases List.mem_or_eq_of_mem_set hc' with hc' | rfl
          · exact h.ok.keysO c' hc' y hy'
          · cases hy'
        · exact layAll_keys _ _ h.ok.keysY (fun y hy' => h.ok.keysO _ hmem y hy')
        · show Slotted d.seed (d.old.set a [])
          rw [hset]
          exact slotted_modify h.slotO (fun _ _ y hy' => by cases hy')
        · intro i c' hi hc'
          simp only at hi hc'
          rw [List.getElem?_set] at hc'
          by_cases e : a = i
          · subst e; rw [if_pos rfl, if_pos hsz] at hc'; exact (Option.some.inj hc').symm
          · rw [if_neg e] at hc'; exact hb i c' (by omega) hc'
        · obtain ⟨Z, p1, p2⟩ := modify_perm (g := fun _ => []) he
          show ((d.old.set a []).flatten ++ ((x :: c).foldl (lay d.seed) d.young).flatten).Perm (d.old.flatten ++ d.young.flatten)
          rw [hset]
          refine (p2.append h2).trans ?_
          rw [List.nil_append]
          refine List.Perm.trans ?_ (p1.symm.append_right d.young.flatten)
          rw [List.append_assoc]
          exact List.perm_append_comm_assoc _ _ _
        · intro hh; have := congrArg List.length hh; simp at this; exact ho this
      · exact ⟨⟨hp, h.ok.lo, h.ok.ly, h.ok.yo, h.ok.keysO, h.ok.keysY⟩, h.slotO, h.slotY, hb, .refl _, rfl, rfl, hy, ho⟩
    rw [es]
    rw [es] at hok
    generalize ({ d with at_ := a } : D α).move = e at *
    unfold turned at hok ⊢
    by_cases hat : e.at_ = e.old.length
    · rw [if_pos hat] at hok ⊢
      have hnil : e.old.flatten = [] := flatten_nil_of (fun i c hi hc => hm.before i c (by omega) hc)
      have hperm : ({ e with old := e.young, young := [], at_ := 0 } : D α).items.Perm d.items := by
        refine List.Perm.trans ?_ hm.perm
        unfold items
        rw [hnil]
        simp
      refine ⟨⟨hok, hm.slotY, fun i c hi => by simp at hi, fun i c hi => by simp at hi, ?_, ?_, fun _ => rfl, fun hh => absurd rfl hh⟩, hperm⟩
      · exact nodupP hperm h.uniq
      · show e.n = _
        rw [hperm.length_eq, hm.n, h.count]
    · rw [if_neg hat] at hok ⊢
      refine ⟨⟨hok, hm.slotO, hm.slotY, hm.before, nodupP hm.perm h.uniq, by rw [hm.n, h.count, hm.perm.length_eq], fun hh => absurd hh hm.young, fun _ => ?_⟩, hm.perm⟩
      have := hok.at_le
      omega

/-! ### Set, Delete -/
theorem idx_split {c : List (ByteArray × α)} {key : ByteArray} {p : α} (h : inChain c key = some p) : ∃ j, idx c key = some j ∧ c[j]? = some (key, p) ∧ c.Perm ((key, p) :: c.eraseIdx j) := by
  rw [idx_find] at h
  cases hi : idx c key with
  | none => rw [hi] at h; cases h
  | some j =>
    rw [hi] at h
    simp only [Option.bind_some] at h
    cases hc : c[j]? with
    | none => rw [hc] at h; cases h
    | some x =>
      rw [hc] at h
      simp only [Option.map_some, Option.some.injEq] at h
      unfold idx at hi
      have h1 := (List.findIdx?_eq_some_iff_getElem.1 hi)
      obtain ⟨hj, hk, _⟩ := h1
      have hx : c[j] = x := by rw [List.getElem?_eq_getElem hj] at hc; exact Option.some.inj hc
      rw [hx] at hk
      simp at hk
      obtain ⟨k, b⟩ := x
      simp at hk h
      subst hk; subst h
      refine ⟨j, rfl, hc, ?_⟩
      have e : c = c.take j ++ (k, b) :: c.drop (j + 1) := by rw [← hx, List.getElem_cons_drop, List.take_append_drop]
      have e2 : c.eraseIdx j = c.take j ++ c.drop (j + 1) := List.eraseIdx_eq_take_drop_succ ..
      rw [e2]
      conv => lhs; rw [e]
      exact List.perm_middle
theorem updChain_perm {c : List (ByteArray × α)} {key : ByteArray} {p : α} {j : Nat} (f : α → α) (h1 : idx c key = some j) (h2 : c[j]? = some (key, p)) : (updChain key f c).Perm ((key, f p) :: c.eraseIdx j) := by
  unfold updChain
  rw [h1]
  simp only
  obtain ⟨hj, hx⟩ := List.getElem?_eq_some_iff.1 h2
  rw [List.modify_eq_take_cons_drop hj, hx, List.eraseIdx_eq_take_drop_succ]
  exact List.perm_middle
theorem delChain_eq {c : List (ByteArray × α)} {key : ByteArray} {j : Nat} (h1 : idx c key = some j) : delChain key c = c.eraseIdx j := by unfold delChain; rw [h1]

theorem lens_change (d : D α) (key : ByteArray) (g : List (ByteArray × α) → List (ByteArray × α)) : (d.change key g).old.length = d.old.length ∧ (d.change key g).young.length = d.young.length ∧ (d.change key g).seed = d.seed ∧ (d.change key g).at_ = d.at_ ∧ (d.change key g).n = d.n := by
  unfold change atSlot
  split <;> simp

/-- One chain that holds the key is changed. -/
theorem WF.change {d : D α} (h : WF d) {key : ByteArray} {p : α} (hf : d.find key = some p) (g : List (ByteArray × α) → List (ByteArray × α)) (hg : ∀ c, ∀ x ∈ g c, x.1 ∈ c.map (·.1)) :
    ∃ c Z, inChain c key = some p ∧ d.items.Perm (c ++ Z) ∧ (d.change key g).items.Perm (g c ++ Z) ∧
      ∀ n', ((d.change key g).items.map (·.1)).Nodup → n' = (d.change key g).items.length → WF { d.change key g with n := n' } := by
  obtain ⟨l1, l2, l3, l4, l5⟩ := lens_change d key g
  have hsl : ∀ {t : List (List (ByteArray × α))}, Slotted d.seed t → Slotted d.seed (atSlot d.seed t key g) := fun {t} hs => slotted_modify hs fun c hc x hx => by
    obtain ⟨y, hy, hyx⟩ := List.mem_map.1 (hg c x hx)
    rw [← hyx]; exact hs _ c hc y hy
  have hks : ∀ {t : List (List (ByteArray × α))}, (∀ c ∈ t, ∀ x ∈ c, x.1.size ≤ 9223372036854775806) → ∀ c ∈ atSlot d.seed t key g, ∀ x ∈ c, x.1.size ≤ 9223372036854775806 := fun {t} ht c hc x hx => by
    unfold atSlot at hc
    obtain ⟨i, hi⟩ := List.mem_iff_getElem?.1 hc
    rw [List.getElem?_modify] at hi
    cases hc0 : t[i]? with
    | none => rw [hc0] at hi; cases hi
    | some c0 =>
      rw [hc0] at hi
      simp only [Option.map_eq_map, Option.map_some, Option.some.injEq] at hi
      split at hi
      · subst hi
        obtain ⟨y, hy, hyx⟩ := List.mem_map.1 (hg c0 x hx)
        rw [← hyx]; exact ht c0 (List.mem_of_getElem? hc0) y hy
      · subst hi; exact ht c0 (List.mem_of_getElem? hc0) x hx
  have hok : DOk (d.change key g) := by
    refine ⟨by rw [l4, l1]; exact h.ok.at_le, by rw [l1]; exact h.ok.lo, by rw [l2]; exact h.ok.ly, fun hh e => ?_, ?_, ?_⟩
    · have e' : d.old = [] := List.length_eq_zero_iff.1 (by rw [← l1, e]; rfl)
      refine h.ok.yo (fun e2 => hh (List.length_eq_zero_iff.1 (by rw [l2, e2]; rfl))) e'
    · unfold D.change
      split
      · exact hks h.ok.keysO
      · exact h.ok.keysO
    · unfold D.change
      split
      · exact h.ok.keysY
      · exact hks h.ok.keysY
  unfold find at hf
  cases ho : inTab d.seed d.old key with
  | some a =>
    rw [ho] at hf
    have hap : a = p := by simpa using hf
    subst hap
    have ec : d.change key g = { d with old := atSlot d.seed d.old key g } := by unfold D.change; rw [ho]; rfl
    rw [ec] at hok ⊢
    unfold inTab at ho
    split at ho
    · rename_i c hc
      obtain ⟨Z, p1, p2⟩ := modify_perm (g := g) hc
      refine ⟨c, Z ++ d.young.flatten, ho, ?_, ?_, fun n' hn hl => ?_⟩
      · unfold items
        rw [← List.append_assoc]
        exact p1.append_right _
      · unfold items
        rw [← List.append_assoc]
        exact p2.append_right _
      · refine ⟨⟨hok.at_le, hok.lo, hok.ly, hok.yo, hok.keysO, hok.keysY⟩, hsl h.slotO, h.slotY, fun i c' hi hc' => ?_, hn, hl, h.atY, fun hh => ?_⟩
        · simp only at hi hc'
          unfold atSlot at hc'
          rw [List.getElem?_modify] at hc'
          cases hc0 : d.old[i]? with
          | none => rw [hc0] at hc'; cases hc'
          | some c0 =>
            rw [hc0] at hc'
            simp only [Option.map_eq_map, Option.map_some, Option.some.injEq] at hc'
            have e0 := h.before i c0 hi hc0
            split at hc'
            · rename_i hs
              rw [hs, hc0] at hc
              rw [← Option.some.inj hc, e0] at ho
              cases ho
            · rw [← hc']; exact e0
        · show d.at_ < (atSlot d.seed d.old key g).length
          unfold atSlot
          rw [List.length_modify]
          exact h.atLt hh
    · cases ho
  | none =>
    rw [ho] at hf
    have hy : inTab d.seed d.young key = some p := by simpa using hf
    have ec : d.change key g = { d with young := atSlot d.seed d.young key g } := by unfold D.change; rw [ho]; rfl
    rw [ec] at hok ⊢
    have hyn : d.young ≠ [] := by
      intro e
      rw [e] at hy
      simp [inTab] at hy
    unfold inTab at hy
    split at hy
    · rename_i c hc
      obtain ⟨Z, p1, p2⟩ := modify_perm (g := g) hc
      refine ⟨c, d.old.flatten ++ Z, hy, ?_, ?_, fun n' hn hl => ?_⟩
      · unfold items
        exact (p1.append_left _).trans (List.perm_append_comm_assoc _ _ _)
      · unfold items
        exact (p2.append_left _).trans (List.perm_append_comm_assoc _ _ _)
      · refine ⟨⟨hok.at_le, hok.lo, hok.ly, hok.yo, hok.keysO, hok.keysY⟩, h.slotO, hsl h.slotY, h.before, hn, hl, fun hh => ?_, fun _ => h.atLt hyn⟩
        have : d.young = [] := List.length_eq_zero_iff.1 (by
          have := congrArg List.length hh
          simpa [atSlot] using this)
        exact absurd this hyn
    · cases hy
theorem updChain_keys (key : ByteArray) (f : α → α) (c : List (ByteArray × α)) : ∀ x ∈ updChain key f c, x.1 ∈ c.map (·.1) := by
  intro x hx
  unfold updChain at hx
  split at hx
  · rename_i j hj
    obtain ⟨i, hi⟩ := List.mem_iff_getElem?.1 hx
    rw [List.getElem?_modify] at hi
    cases hc : c[i]? with
    | none => rw [hc] at hi; cases hi
    | some y =>
      rw [hc] at hi
      simp only [Option.map_eq_map, Option.map_some, Option.some.injEq] at hi
      have : x.1 = y.1 := by
        split at hi <;> rw [← hi]
      rw [this]
      exact List.mem_map.2 ⟨y, List.mem_of_getElem? hc, rfl⟩
  · exact List.mem_map.2 ⟨x, hx, rfl⟩
theorem delChain_keys (key : ByteArray) (c : List (ByteArray × α)) : ∀ x ∈ delChain key c, x.1 ∈ c.map (·.1) := by
  intro x hx
  unfold delChain at hx
  split at hx
  · exact List.mem_map.2 ⟨x, List.mem_of_mem_eraseIdx hx, rfl⟩
  · exact List.mem_map.2 ⟨x, hx, rfl⟩

theorem WF.perm_keys {d e : D α} (h : WF d) (p : e.items.Perm d.items) : (e.items.map (·.1)).Nodup := nodupP p h.uniq

theorem WF.upd {d : D α} (h : WF d) {key : ByteArray} {p : α} (hf : d.find key = some p) (f : α → α) : WF (d.upd key f) ∧ ∃ R, d.items.Perm ((key, p) :: R) ∧ (d.upd key f).items.Perm ((key, f p) :: R) := by
  obtain ⟨c, Z, h1, h2, h3, h4⟩ := h.change hf (updChain key f) (updChain_keys key f)
  obtain ⟨j, j1, j2, j3⟩ := idx_split h1
  have hu := updChain_perm f j1 j2
  have q1 : d.items.Perm ((key, p) :: (c.eraseIdx j ++ Z)) := h2.trans (j3.append_right Z)
  have q2 : (d.change key (updChain key f)).items.Perm ((key, f p) :: (c.eraseIdx j ++ Z)) := h3.trans (hu.append_right Z)
  refine ⟨?_, _, q1, q2⟩
  have hn : ((d.change key (updChain key f)).items.map (·.1)).Nodup := by
    rw [(q2.map (·.1)).nodup_iff]
    have := nodupP q1.symm h.uniq
    simpa using this
  have := h4 d.n hn (by rw [h.count, q1.length_eq, q2.length_eq]; rfl)
  have e : ({ d.change key (updChain key f) with n := d.n } : D α) = d.upd key f := by
    unfold D.upd
    have := (lens_change d key (updChain key f)).2.2.2.2
    rw [← this]
  rw [← e]; exact this

theorem least_bounds (n : Nat) : ∀ (k s : Nat), s ≤ least k n s ∧ least k n s ≤ max s (2 * n)
  | 0, s => by simp [least]; omega
  | k + 1, s => by
    unfold least
    split
    · have := least_bounds n k (2 * s)
      omega
    · omega
theorem slotted_replicate (seed : Int) (k : Nat) : Slotted seed (List.replicate k ([] : List (ByteArray × α))) := by
  intro i c hc x hx
  rw [List.getElem?_replicate] at hc
  split at hc
  · rw [← Option.some.inj hc] at hx; cases hx
  · cases hc
theorem flatten_replicate_nil (k : Nat) : (List.replicate k ([] : List (ByteArray × α))).flatten = [] := by simp

theorem WF.del {d : D α} (h : WF d) {key : ByteArray} {p : α} (hf : d.find key = some p) (hn : d.n ≤ 1099511627776) : WF (shrunk { d.change key (delChain key) with n := d.n - 1 }) ∧ ∃ R, d.items.Perm ((key, p) :: R) ∧ (shrunk { d.change key (delChain key) with n := d.n - 1 }).items.Perm R := by
  obtain ⟨c, Z, h1, h2, h3, h4⟩ := h.change hf (delChain key) (delChain_keys key)
  obtain ⟨j, j1, j2, j3⟩ := idx_split h1
  rw [delChain_eq j1] at h3
  have q1 : d.items.Perm ((key, p) :: (c.eraseIdx j ++ Z)) := h2.trans (j3.append_right Z)
  have hu : ((d.change key (delChain key)).items.map (·.1)).Nodup := by
    rw [(h3.map (·.1)).nodup_iff]
    have := nodupP q1.symm h.uniq
    simp only [List.map_cons, List.nodup_cons] at this
    exact this.2
  have hw := h4 (d.n - 1) hu (by rw [h.count, q1.length_eq, h3.length_eq]; rfl)
  have hpos : 0 < d.n := by rw [h.count, q1.length_eq]; simp
  have hm : d.n - 1 ≤ 1099511627776 := by omega
  generalize hg : ({ d.change key (delChain key) with n := d.n - 1 } : D α) = e at *
  have hi : e.items.Perm (c.eraseIdx j ++ Z) := by rw [← hg]; exact h3
  have hen : e.n = d.n - 1 := by rw [← hg]
  unfold shrunk
  split
  · rename_i hc
    obtain ⟨c1, c2, c3⟩ := hc
    have hb := least_bounds e.n 64 4
    have hne : List.replicate (least 64 e.n 4) ([] : List (ByteArray × α)) ≠ [] := by
      intro hh
      have := congrArg List.length hh
      simp at this
      omega
    have hit : ({ e with young := List.replicate (least 64 e.n 4) [] } : D α).items = e.items := by unfold items; rw [c1]; simp
    refine ⟨⟨⟨hw.ok.at_le, hw.ok.lo, by simp only [List.length_replicate]; omega, fun _ hh => by simp only at hh; rw [hh] at c2; simp at c2, hw.ok.keysO, fun c' hc' x hx => ?_⟩, hw.slotO, slotted_replicate _ _, hw.before, ?_, ?_, fun hh => absurd hh hne, fun _ => ?_⟩, _, q1, ?_⟩
    · rw [(List.mem_replicate.1 hc').2] at hx; cases hx
    · unfold keys; rw [hit]; exact hw.uniq
    · rw [hit]; exact hw.count
    · show e.at_ < e.old.length
      rw [hw.atY c1]; omega
    · rw [hit]; exact hi
  · exact ⟨hw, _, q1, hi⟩

theorem grown_seed (d : D α) : d.grown.seed = d.seed := by
  unfold D.grown
  repeat' split
  all_goals rfl
theorem WF.grown {d : D α} (h : WF d) (hn : d.n ≤ 1099511627776) : WF d.grown ∧ d.grown.items = d.items ∧ d.grown.n = d.n ∧ d.grown.old ≠ [] := by
  unfold D.grown
  split
  · rename_i ho
    have hy : d.young = [] := by
      cases hy : d.young with
      | nil => rfl
      | cons x r => exact absurd ho (h.ok.yo (by rw [hy]; simp))
    have hit : ({ d with old := List.replicate 4 [] } : D α).items = d.items := by unfold items; rw [ho]; simp
    have ha := h.atY hy
    refine ⟨⟨⟨by simp only; omega, by simp, h.ok.ly, fun hh => absurd hy hh, fun c' hc' x hx => ?_, h.ok.keysY⟩, slotted_replicate _ 4, h.slotY, fun i c hi => by simp only [ha] at hi; omega, ?_, ?_, fun _ => ha, fun hh => absurd hy hh⟩, hit, rfl, by simp⟩
    · rw [(List.mem_replicate.1 hc').2] at hx; cases hx
    · unfold keys; rw [hit]; exact h.uniq
    · rw [hit]; exact h.count
  · rename_i ho
    split
    · rename_i hc
      obtain ⟨c1, c2⟩ := hc
      have hl : 0 < d.old.length := List.length_pos_iff.2 ho
      have hne : List.replicate (2 * d.old.length) ([] : List (ByteArray × α)) ≠ [] := by
        intro hh
        have := congrArg List.length hh
        simp at this
        omega
      have hit : ({ d with young := List.replicate (2 * d.old.length) [] } : D α).items = d.items := by unfold items; rw [c1]; simp
      have ha := h.atY c1
      refine ⟨⟨⟨h.ok.at_le, h.ok.lo, by simp only [List.length_replicate]; omega, fun _ => ho, h.ok.keysO, fun c' hc' x hx => ?_⟩, h.slotO, slotted_replicate _ _, h.before, ?_, ?_, fun hh => absurd hh hne, fun _ => ?_⟩, hit, rfl, ho⟩
      · rw [(List.mem_replicate.1 hc').2] at hx; cases hx
      · unfold keys; rw [hit]; exact h.uniq
      · rw [hit]; exact h.count
      · show d.at_ < d.old.length
        omega
    · exact ⟨h, rfl, rfl, ho⟩

theorem WF.insert {d : D α} (h : WF d) (hn : d.n ≤ 1099511627776) {key : ByteArray} (a : α) (hf : d.find key = none) (hk : key.size ≤ 9223372036854775806) : WF (d.insert key a) ∧ (d.insert key a).items.Perm ((key, a) :: d.items) := by
  obtain ⟨hg, hit, hgn, hgo⟩ := h.grown hn
  have hnk := h.find_none.1 hf
  unfold D.insert
  rw [← hit]
  have hnk' : key ∉ d.grown.keys := by unfold keys at hnk ⊢; rw [hit]; exact hnk
  have hgs := grown_seed d
  rw [← hgn, ← hgs]
  clear hgs
  generalize d.grown = e at *
  have hcnt : e.n + 1 = ((key, a) :: e.items).length := by rw [hg.count]; rfl
  have huq : (((key, a) :: e.items).map (·.1)).Nodup := by
    simp only [List.map_cons, List.nodup_cons]
    exact ⟨hnk', hg.uniq⟩
  split
  · rename_i hy
    have hp := D.lay_perm (seed := e.seed) (x := (key, a)) hgo (by have := hg.ok.lo; omega)
    have hpi : ({ e with old := lay e.seed e.old (key, a), n := e.n + 1 } : D α).items.Perm ((key, a) :: e.items) := hp.append_right _
    have hll := D.lay_length e.seed e.old (key, a)
    refine ⟨⟨⟨by rw [hll]; exact hg.ok.at_le, by rw [hll]; exact hg.ok.lo, hg.ok.ly, fun hh => absurd hy hh, lay_keys hg.ok.keysO hk, hg.ok.keysY⟩, slotted_lay hg.slotO _, hg.slotY, fun i c hi => by simp only [hg.atY hy] at hi; omega, nodupP hpi huq, ?_, hg.atY, fun hh => absurd hy hh⟩, hpi⟩
    rw [hpi.length_eq]; exact hcnt
  · rename_i hy
    have hp := D.lay_perm (seed := e.seed) (x := (key, a)) hy (by have := hg.ok.ly; omega)
    have hpi : ({ e with young := lay e.seed e.young (key, a), n := e.n + 1 } : D α).items.Perm ((key, a) :: e.items) := (hp.append_left _).trans List.perm_middle
    have hll := D.lay_length e.seed e.young (key, a)
    refine ⟨⟨⟨hg.ok.at_le, hg.ok.lo, by rw [hll]; exact hg.ok.ly, fun _ => hgo, hg.ok.keysO, lay_keys hg.ok.keysY hk⟩, hg.slotO, slotted_lay hg.slotY _, hg.before, nodupP hpi huq, ?_, fun hh => absurd (List.length_eq_zero_iff.1 (by rw [← hll]; simp only at hh; rw [hh]; rfl)) hy, fun _ => hg.atLt hy⟩, hpi⟩
    rw [hpi.length_eq]; exact hcnt

/-- Set, in short. -/
theorem WF.set {d : D α} (h : WF d) (hn : d.n ≤ 1099511627776) (key : ByteArray) (f : α → α) (a : α) (hk : key.size ≤ 9223372036854775806) : WF (d.set key f a) ∧
    ((∃ p R, d.find key = some p ∧ d.items.Perm ((key, p) :: R) ∧ (d.set key f a).items.Perm ((key, f p) :: R)) ∨ (d.find key = none ∧ (d.set key f a).items.Perm ((key, a) :: d.items))) := by
  obtain ⟨hs, hp⟩ := h.step
  have hfe : d.step.find key = d.find key := by
    cases hf : d.find key with
    | none =>
      refine hs.find_none.2 fun hm => h.find_none.1 hf ?_
      exact ((hp.map (·.1)).mem_iff).1 hm
    | some p => exact hs.find_iff.2 (hp.mem_iff.2 (h.find_iff.1 hf))
  unfold D.set
  rw [hfe]
  cases hf : d.find key with
  | none =>
    have := hs.insert (by rw [step_n]; exact hn) a (hfe.trans hf) hk
    exact ⟨this.1, .inr ⟨rfl, this.2.trans (hp.cons _)⟩⟩
  | some p =>
    obtain ⟨h1, R, h2, h3⟩ := hs.upd (hfe.trans hf) f
    exact ⟨h1, .inl ⟨p, R, rfl, hp.symm.trans h2, h3⟩⟩
theorem WF.find_step {d : D α} (h : WF d) (key : ByteArray) : d.step.find key = d.find key := by
  obtain ⟨hs, hp⟩ := h.step
  cases hf : d.find key with
  | none =>
    refine hs.find_none.2 fun hm => h.find_none.1 hf ?_
    exact ((hp.map (·.1)).mem_iff).1 hm
  | some p => exact hs.find_iff.2 (hp.mem_iff.2 (h.find_iff.1 hf))
/-- Delete, in short. -/
theorem WF.delete {d : D α} (h : WF d) (hn : d.n ≤ 1099511627776) (key : ByteArray) : WF (d.delete key) ∧
    ((∃ p R, d.find key = some p ∧ d.items.Perm ((key, p) :: R) ∧ (d.delete key).items.Perm R) ∨ (d.find key = none ∧ (d.delete key).items.Perm d.items)) := by
  obtain ⟨hs, hp⟩ := h.step
  unfold D.delete
  rw [h.find_step]
  cases hf : d.find key with
  | none => exact ⟨hs, .inr ⟨rfl, hp⟩⟩
  | some p =>
    obtain ⟨h1, R, h2, h3⟩ := hs.del (p := p) ((h.find_step key).trans hf) (by rw [step_n]; exact hn)
    rw [step_n] at h1 h3
    exact ⟨h1, .inl ⟨p, R, rfl, hp.symm.trans h2, h3⟩⟩
end D
end Go.PS
