/-
  Rows that are ours, read element by element and given back.
  Conditions: each lemma's own.
-/
import Derived.Test.YtopkabhgkhjecaaGreatSortB
namespace Go.PS
open Go

/-- A slice of ours, opened for reading. -/
structure OwnP (G : World) (e sz n : Nat) (v : Value) (X : List Value) (base : Option Addr) (cap : Nat) (M : List HP) : Prop where
  val : v = .slice base n cap
  len : X.length = n * sz
  le : n ≤ cap
  rd : (base = none ∧ n = 0 ∧ cap = 0) ∨ ∃ b C, base = some ⟨b, 0, none⟩ ∧ (∀ i, i < X.length → C[i]? = X[i]?) ∧ C.size = cap * sz ∧ ∀ L, Reads G (M ++ L) b C
  shut : ∀ w L, Sat G w (M ++ L) → Sat G w (OwnSl e sz n v X :: L)
theorem own_x {G w : World} {e sz n : Nat} {v : Value} {X : List Value} {L : List HP} (H : Sat G w (OwnSl e sz n v X :: L)) : ∃ z : Option Addr × Nat × List HP, OwnP G e sz n v X z.1 z.2.1 z.2.2 ∧ Sat G w (z.2.2 ++ L) := by
  rcases sat_ownCases H with ⟨h1, h2, h3, h4⟩ | ⟨b, cap, rest, h1, h2, h3, h4, h5⟩
  · subst h1 h2 h3
    exact ⟨(none, 0, []), ⟨rfl, by simp, Nat.le_refl _, .inl ⟨rfl, rfl, rfl⟩, fun w L hw => sat_ownNil hw⟩, h4⟩
  · subst h1
    refine ⟨(some ⟨b, 0, none⟩, cap, [Blk b (.cells (X ++ rest).toArray e (0, 0))]), ⟨rfl, h3, h2, .inr ⟨b, (X ++ rest).toArray, rfl, fun i hi => by simp [List.getElem?_append_left hi], by simpa using h4, fun L => reads_mem (T := e) (fz := (0, 0)) (by simp)⟩, fun w L hw => ?_⟩, h5⟩
    exact sat_ownBlk h2 h3 h4 hw

theorem row_elem {α : Type} {enc : α → List Value} {k : Nat} (hk : ∀ x, (enc x).length = k) (hk0 : 0 < k) {C : Array Value} {xs : List α} (hC : ∀ i, i < (xs.flatMap enc).length → C[i]? = (xs.flatMap enc)[i]?) {i : Nat} {x : α} (hi : xs[i]? = some x) :
    C.extract (i * k) (i * k + k) = (enc x).toArray ∧ i * k + k ≤ C.size := by
  haveI : Inhabited α := ⟨x⟩
  obtain ⟨hlt, hx⟩ := List.getElem?_eq_some_iff.1 hi
  have hle : i * k + k ≤ xs.length * k := by
    have := Nat.mul_le_mul_right k (show i + 1 ≤ xs.length from hlt)
    rwa [Nat.add_mul, Nat.one_mul] at this
  have hlen := flatMap_len hk xs
  have hget : ∀ j, j < k → C[i * k + j]? = (enc x)[j]? := by
    intro j hj
    rw [hC _ (by rw [hlen]; omega), flatMap_get hk _ _ (by omega)]
    have e1 : (i * k + j) / k = i := by rw [Nat.mul_comm, Nat.mul_add_div hk0, Nat.div_eq_of_lt hj]; omega
    have e2 : (i * k + j) % k = j := by rw [Nat.mul_comm, Nat.mul_add_mod, Nat.mod_eq_of_lt hj]
    rw [e1, e2, getElem!_pos xs i hlt, hx]
  have hsz : i * k + k ≤ C.size := by
    have h1 := hget (k - 1) (by omega)
    rw [List.getElem?_eq_getElem (by rw [hk]; omega)] at h1
    have := (Array.getElem?_eq_some_iff.1 h1).1
    omega
  refine ⟨?_, hsz⟩
  apply Array.ext_getElem?
  intro j
  rw [Array.getElem?_extract]
  by_cases hj : j < k
  · rw [if_pos (by omega), hget j hj]; simp
  · rw [if_neg (by omega)]
    have : (enc x).toArray[j]? = none := by simp [hk]; omega
    rw [this]

section
variable {S : Setup} {ρ : Env} {L : List HP} {ty : TypeId}
/-- An element of a row, loaded as a whole. -/
theorem ev_loadRow {t b i off : Nat} {C : Array Value} {x : Operand} {ev' : List Value} (n : Nat) (hx : ev ρ x = some (.pointer (some ⟨b, off, none⟩))) (ho : off = i * n) [hr : Reads S.G L b C] (hC : C.extract (i * n) (i * n + n) = ev'.toArray ∧ i * n + n ≤ C.size) (ht : aggT S.P t n = true) :
    Ev S (.load t x) ty ρ L (.agg ev'.toArray) := by
  subst ho
  have := ev_loadAgg (S := S) (L := L) (ty := ty) (c := C) (off := i * n) n hx hC.2 ht
  rwa [hC.1] at this
theorem slice_front {base : Option Addr} {cap h sz : Nat} (hb : base = none ∨ ∃ b, base = some ⟨b, 0, none⟩) : (Value.slice (if cap = 0 then base else base.map (·.add (0 * sz))) (h - 0) (cap - 0)) = .slice base h cap := by
  have : (if cap = 0 then base else base.map (·.add (0 * sz))) = base := by
    split
    · rfl
    · rcases hb with rfl | ⟨b, rfl⟩
      · rfl
      · rw [Option.map_some, add_off]; simp
  rw [this]; rfl
end
end Go.PS
