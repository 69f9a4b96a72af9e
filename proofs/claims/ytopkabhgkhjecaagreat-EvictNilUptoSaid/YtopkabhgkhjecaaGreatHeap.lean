/-
  Memory as separate parts: a list of assertions, each over blocks of its own; what else lies in memory is left open.
  Conditions: none. No program in sight.
-/
import Derived.Calls
import Derived.AtR
import Derived.Deep.Quiet
namespace Go.PS
open Go

abbrev Heap := Nat → Option Obj
abbrev HP := Heap → Prop

def hcat (h k : Heap) : Heap := fun i => match h i with | some o => some o | none => k i
def Apart (h k : Heap) : Prop := ∀ i, h i = none ∨ k i = none

/-- All of a list of assertions, each over blocks of its own. -/
def Star : List HP → HP
  | [] => fun h => ∀ i, h i = none
  | A :: L => fun h => ∃ h1 h2, A h1 ∧ Star L h2 ∧ Apart h1 h2 ∧ h = hcat h1 h2

/-- What a world holds, G being the world that the count began with. -/
structure Sat (G w : World) (L : List HP) : Prop where
  os : w.os = G.os
  tape : w.tape = G.tape
  output : w.output = G.output
  gone : G.drawn ≤ w.drawn
  mem : ∃ h, Star L h ∧ ∀ i o, h i = some o → w.heap[i]? = some o

/-- One block, whole. -/
def Blk (b : Nat) (o : Obj) : HP := fun h => ∀ i, h i = if i = b then some o else none

theorem hcat_comm {h k : Heap} (H : Apart h k) : hcat h k = hcat k h := by
  funext i
  unfold hcat
  rcases H i with e | e
  · rw [e]; cases k i <;> rfl
  · rw [e]; cases h i <;> rfl

theorem hcat_assoc (h k l : Heap) : hcat (hcat h k) l = hcat h (hcat k l) := by
  funext i; unfold hcat; cases h i <;> rfl

theorem Apart.symm {h k : Heap} (H : Apart h k) : Apart k h := fun i => (H i).symm

theorem apart_hcat {h k l : Heap} : Apart h (hcat k l) ↔ Apart h k ∧ Apart h l := by
  unfold Apart hcat
  constructor
  · intro H
    refine ⟨fun i => ?_, fun i => ?_⟩
    · rcases H i with e | e
      · exact .inl e
      · cases hk : k i with
        | none => exact .inr rfl
        | some o => rw [hk] at e; cases e
    · rcases H i with e | e
      · exact .inl e
      · cases hk : k i with
        | none => rw [hk] at e; exact .inr e
        | some o => rw [hk] at e; cases e
  · rintro ⟨H1, H2⟩ i
    rcases H1 i with e | e
    · exact .inl e
    · rcases H2 i with e' | e'
      · exact .inl e'
      · exact .inr (by rw [e]; exact e')

theorem star_swap {A B : HP} {L : List HP} {h : Heap} (H : Star (A :: B :: L) h) : Star (B :: A :: L) h := by
  obtain ⟨a, r, ha, ⟨b, l, hb, hl, hbl, rfl⟩, har, rfl⟩ := H
  obtain ⟨hab, hal⟩ := apart_hcat.1 har
  refine ⟨b, hcat a l, hb, ⟨a, l, ha, hl, hal, rfl⟩, apart_hcat.2 ⟨hab.symm, hbl⟩, ?_⟩
  rw [← hcat_assoc, hcat_comm hab, hcat_assoc]

theorem star_cons {A B : HP} {L M : List HP} {h : Heap} (hA : ∀ k, A k → B k) (hL : ∀ k, Star L k → Star M k) (H : Star (A :: L) h) : Star (B :: M) h := by
  obtain ⟨a, l, ha, hl, hal, rfl⟩ := H
  exact ⟨a, l, hA a ha, hL l hl, hal, rfl⟩

theorem star_perm {L M : List HP} (p : L.Perm M) : ∀ {h : Heap}, Star L h → Star M h := by
  induction p with
  | nil => exact fun h => h
  | cons A _ ih => exact fun H => star_cons (fun _ h => h) (fun _ => ih) H
  | swap A B L => exact fun H => star_swap H
  | trans _ _ ih1 ih2 => exact fun H => ih2 (ih1 H)

theorem star_append {L M : List HP} : ∀ {h : Heap}, Star (L ++ M) h ↔ ∃ a b, Star L a ∧ Star M b ∧ Apart a b ∧ h = hcat a b := by
  induction L with
  | nil =>
    intro h
    constructor
    · intro H; exact ⟨fun _ => none, h, fun _ => rfl, H, fun _ => .inl rfl, by funext i; rfl⟩
    · rintro ⟨a, b, ha, hb, _, rfl⟩
      have : hcat a b = b := by funext i; unfold hcat; rw [ha i]
      simpa [this] using hb
  | cons A L ih =>
    intro h
    constructor
    · rintro ⟨a, r, ha, hr, har, rfl⟩
      obtain ⟨l, m, hl, hm, hlm, rfl⟩ := ih.1 hr
      obtain ⟨h1, h2⟩ := apart_hcat.1 har
      exact ⟨hcat a l, m, ⟨a, l, ha, hl, h1, rfl⟩, hm, (apart_hcat.2 ⟨h2.symm, hlm.symm⟩).symm, (hcat_assoc _ _ _).symm⟩
    · rintro ⟨x, m, ⟨a, l, ha, hl, hal, rfl⟩, hm, hxm, rfl⟩
      obtain ⟨h1, h2⟩ := apart_hcat.1 hxm.symm
      exact ⟨a, hcat l m, ha, ih.2 ⟨l, m, hl, hm, h2.symm, rfl⟩, apart_hcat.2 ⟨hal, h1.symm⟩, hcat_assoc _ _ _⟩

/-- A list of assertions as one. -/
theorem star_one {A : HP} {h : Heap} : Star [A] h ↔ A h := by
  constructor
  · rintro ⟨a, r, ha, hr, _, rfl⟩
    have : hcat a r = a := by funext i; unfold hcat; rw [hr i]; cases a i <;> rfl
    rwa [this]
  · intro H
    exact ⟨h, fun _ => none, H, fun _ => rfl, fun _ => .inr rfl, by funext i; unfold hcat; cases h i <;> rfl⟩

section
variable {G w w' : World} {L M : List HP} {A B : HP}

theorem Sat.mono (H : Sat G w L) (h : ∀ k, Star L k → Star M k) : Sat G w M :=
  ⟨H.os, H.tape, H.output, H.gone, let ⟨k, h1, h2⟩ := H.mem; ⟨k, h k h1, h2⟩⟩
theorem Sat.perm (H : Sat G w L) (p : L.Perm M) : Sat G w M := H.mono fun _ => star_perm p
theorem Sat.swap (H : Sat G w (A :: B :: L)) : Sat G w (B :: A :: L) := H.mono fun _ => star_swap
theorem Sat.weak (H : Sat G w (A :: L)) (h : ∀ k, A k → B k) : Sat G w (B :: L) := H.mono fun _ => star_cons h fun _ h => h
theorem Sat.tail (H : Sat G w (A :: L)) : Sat G w L :=
  ⟨H.os, H.tape, H.output, H.gone, by
    obtain ⟨k, ⟨a, l, _, hl, hal, rfl⟩, h2⟩ := H.mem
    refine ⟨l, hl, fun i o hi => h2 i o ?_⟩
    unfold hcat
    rcases hal i with e | e
    · rw [e]; exact hi
    · rw [hi] at e; cases e⟩
theorem Sat.append_right (H : Sat G w (L ++ M)) : Sat G w M := by
  induction L with
  | nil => exact H
  | cons A L ih => exact ih H.tail
theorem Sat.append_comm (H : Sat G w (L ++ M)) : Sat G w (M ++ L) := H.perm List.perm_append_comm
/-- A group as one assertion, and back. -/
theorem Sat.group (H : Sat G w (L ++ M)) : Sat G w (Star L :: M) := H.mono fun _ h => star_append.1 h
theorem Sat.ungroup (H : Sat G w (Star L :: M)) : Sat G w (L ++ M) := H.mono fun _ h => star_append.2 h
theorem Sat.one (H : Sat G w (A :: L)) : Sat G w (Star [A] :: L) := H.weak fun _ h => star_one.2 h
theorem Sat.ofOne (H : Sat G w (Star [A] :: L)) : Sat G w (A :: L) := H.weak fun _ h => star_one.1 h

/-- What an assertion says beside memory. -/
theorem Sat.pure {p : Prop} (H : Sat G w ((fun h => p ∧ A h) :: L)) : p ∧ Sat G w (A :: L) := by
  obtain ⟨k, ⟨a, l, ⟨hp, _⟩, _, _, _⟩, _⟩ := H.mem
  exact ⟨hp, H.weak fun _ h => h.2⟩
theorem Sat.mkPure {p : Prop} (hp : p) (H : Sat G w (A :: L)) : Sat G w ((fun h => p ∧ A h) :: L) := H.weak fun _ h => ⟨hp, h⟩
theorem Sat.ex {α : Sort _} {A : α → HP} (H : Sat G w ((fun h => ∃ x, A x h) :: L)) : ∃ x, Sat G w (A x :: L) := by
  obtain ⟨k, ⟨a, l, ⟨x, hx⟩, hl, hal, rfl⟩, h2⟩ := H.mem
  exact ⟨x, H.os, H.tape, H.output, H.gone, _, ⟨a, l, hx, hl, hal, rfl⟩, h2⟩
theorem Sat.mkEx {α : Sort _} {A : α → HP} (x : α) (H : Sat G w (A x :: L)) : Sat G w ((fun h => ∃ x, A x h) :: L) := H.weak fun _ h => ⟨x, h⟩

/-- The world may be another one with the same memory. -/
theorem Sat.same (H : Sat G w L) (h1 : w'.heap = w.heap) (h2 : w'.os = w.os) (h3 : w'.tape = w.tape) (h4 : w'.output = w.output) (h5 : w.drawn ≤ w'.drawn := by first | exact Nat.le_refl _ | exact Nat.le_add_right _ _ | assumption) : Sat G w' L :=
  ⟨h2.trans H.os, h3.trans H.tape, h4.trans H.output, Nat.le_trans H.gone h5, by rw [h1]; exact H.mem⟩
theorem Sat.drawn (H : Sat G w L) (n : Nat) (h : w.drawn ≤ n := by first | exact Nat.le_refl _ | exact Nat.le_add_right _ _) : Sat G { w with drawn := n } L := H.same rfl rfl rfl rfl h

theorem Sat.blk {b : Nat} {o : Obj} (H : Sat G w (Blk b o :: L)) : w.heap[b]? = some o := by
  obtain ⟨k, ⟨a, l, ha, hl, hal, rfl⟩, h2⟩ := H.mem
  refine h2 b o ?_
  unfold hcat
  rw [ha b, if_pos rfl]

theorem mem_front {A : HP} {L : List HP} (h : A ∈ L) : ∃ M, L.Perm (A :: M) := by
  obtain ⟨s, t, rfl⟩ := List.append_of_mem h
  exact ⟨s ++ t, List.perm_middle⟩

theorem Sat.get {b : Nat} {o : Obj} (H : Sat G w L) (h : Blk b o ∈ L) : w.heap[b]? = some o := by
  obtain ⟨M, p⟩ := mem_front h
  exact (H.perm p).blk

theorem star_set {b : Nat} {o o' : Obj} {h : Heap} (H : Star (Blk b o :: L) h) : Star (Blk b o' :: L) (fun i => if i = b then some o' else h i) ∧ h b = some o := by
  obtain ⟨a, l, ha, hl, hal, rfl⟩ := H
  have hb : a b = some o := by rw [ha b, if_pos rfl]
  refine ⟨⟨fun i => if i = b then some o' else none, l, fun _ => rfl, hl, fun i => ?_, ?_⟩, by unfold hcat; rw [hb]⟩
  · by_cases e : i = b
    · subst e; rcases hal i with e | e
      · rw [hb] at e; cases e
      · exact .inr e
    · exact .inl (by simp [e])
  · funext i
    unfold hcat
    by_cases e : i = b
    · simp [e]
    · rw [ha i]; simp [e]

/-- One block is written. -/
theorem Sat.set {b : Nat} {o o' : Obj} (H : Sat G w (Blk b o :: L)) (hb : w'.heap[b]? = some o') (ho : ∀ i, i ≠ b → w'.heap[i]? = w.heap[i]?)
    (h2 : w'.os = w.os) (h3 : w'.tape = w.tape) (h4 : w'.output = w.output) (h5 : w.drawn ≤ w'.drawn := by first | exact Nat.le_refl _ | exact Nat.le_add_right _ _ | assumption) : Sat G w' (Blk b o' :: L) :=
  ⟨h2.trans H.os, h3.trans H.tape, h4.trans H.output, Nat.le_trans H.gone h5, by
    obtain ⟨k, hk, hm⟩ := H.mem
    refine ⟨_, (star_set (o' := o') hk).1, fun i u hi => ?_⟩
    by_cases e : i = b
    · subst e; simp at hi; rw [hb, hi]
    · simp [e] at hi; rw [ho i e]; exact hm i u hi⟩

theorem Sat.setAt {b : Nat} {o o' : Obj} (s : List HP) {t : List HP} (H : Sat G w (s ++ Blk b o :: t)) (hb : w'.heap[b]? = some o') (ho : ∀ i, i ≠ b → w'.heap[i]? = w.heap[i]?)
    (h2 : w'.os = w.os) (h3 : w'.tape = w.tape) (h4 : w'.output = w.output) (h5 : w.drawn ≤ w'.drawn := by first | exact Nat.le_refl _ | exact Nat.le_add_right _ _ | assumption) : Sat G w' (s ++ Blk b o' :: t) :=
  ((H.perm List.perm_middle).set hb ho h2 h3 h4 h5).perm List.perm_middle.symm

/-- A block is laid. -/
theorem Sat.new (H : Sat G w L) (o : Obj) (h1 : w'.heap = w.heap.push o) (h2 : w'.os = w.os) (h3 : w'.tape = w.tape) (h4 : w'.output = w.output) (h5 : w.drawn ≤ w'.drawn := by first | exact Nat.le_refl _ | exact Nat.le_add_right _ _ | assumption) :
    Sat G w' (Blk w.heap.size o :: L) :=
  ⟨h2.trans H.os, h3.trans H.tape, h4.trans H.output, Nat.le_trans H.gone h5, by
    obtain ⟨k, hk, hm⟩ := H.mem
    have hn : ∀ i, w.heap.size ≤ i → k i = none := fun i hi => by
      cases hki : k i with
      | none => rfl
      | some u => have := hm i u hki; rw [Array.getElem?_eq_none hi] at this; cases this
    refine ⟨hcat (fun i => if i = w.heap.size then some o else none) k, ⟨_, k, fun _ => rfl, hk, fun i => ?_, rfl⟩, fun i u hi => ?_⟩
    · by_cases e : i = w.heap.size
      · exact .inr (hn i (by omega))
      · exact .inl (by simp [e])
    · unfold hcat at hi
      by_cases e : i = w.heap.size
      · subst e; simp at hi; rw [h1, ← hi]; simp
      · simp [e] at hi
        have := hm i u hi
        have hlt : i < w.heap.size := by
          rcases Nat.lt_or_ge i w.heap.size with h | h
          · exact h
          · rw [Array.getElem?_eq_none h] at this; cases this
        rw [h1, Array.getElem?_push, if_neg e]; exact this⟩

theorem Sat.ne {b c : Nat} {o u : Obj} (H : Sat G w (Blk b o :: Blk c u :: L)) : b ≠ c := by
  obtain ⟨k, ⟨a, l, ha, ⟨x, y, hx, hy, hxy, rfl⟩, hal, rfl⟩, _⟩ := H.mem
  rintro rfl
  rcases hal b with e | e
  · rw [ha b, if_pos rfl] at e; cases e
  · unfold hcat at e; rw [hx b, if_pos rfl] at e; cases e
end

/-- All that lay in G. -/
def Old (G : World) : HP := fun h => ∀ i, h i = G.heap[i]?

theorem sat_start (w : World) : Sat w w [Old w] :=
  ⟨rfl, rfl, rfl, Nat.le_refl _, fun i => w.heap[i]?, star_one.2 fun _ => rfl, fun _ _ h => h⟩

theorem Sat.old {G w : World} {L : List HP} (H : Sat G w (Old G :: L)) {i : Nat} {o : Obj} (h : G.heap[i]? = some o) : w.heap[i]? = some o := by
  obtain ⟨k, ⟨a, l, ha, hl, hal, rfl⟩, h2⟩ := H.mem
  refine h2 i o ?_
  unfold hcat
  rw [ha i, h]

theorem Sat.oldOf {G w : World} {L : List HP} (H : Sat G w L) (hm : Old G ∈ L) {i : Nat} {o : Obj} (h : G.heap[i]? = some o) : w.heap[i]? = some o := by
  obtain ⟨M, p⟩ := mem_front hm
  exact (H.perm p).old h

theorem Sat.size {G w : World} {L : List HP} (H : Sat G w L) (hm : Old G ∈ L) : G.heap.size ≤ w.heap.size := by
  rcases Nat.lt_or_ge w.heap.size G.heap.size with h | h
  · exfalso
    have h1 := H.oldOf hm (Array.getElem?_eq_some_iff.2 ⟨h, rfl⟩)
    rw [Array.getElem?_eq_none (Nat.le_refl _)] at h1
    cases h1
  · exact h

end Go.PS
