/-
  The library's sort of rows of structs, as a contract over what is known of memory.
  Conditions: the contract's own.
-/
import Derived.Test.YtopkabhgkhjecaaGreatAggs
import Derived.Shelf.SlSortCmp.NoneTotal
namespace Go.PS
open Go Go.Proofs Go.Shelf Go.RowKit Go.Lib Go.Sort

section
variable {α : Type} [Inhabited α] {enc : α → List Value} {k : Nat}
omit [Inhabited α] in
theorem flatMap_len (hk : ∀ x, (enc x).length = k) (xs : List α) : (xs.flatMap enc).length = xs.length * k := by
  induction xs with
  | nil => simp
  | cons x r ih => rw [List.flatMap_cons, List.length_append, hk, ih, List.length_cons, Nat.succ_mul]; omega
theorem flatMap_get (hk : ∀ x, (enc x).length = k) : ∀ (xs : List α) (t : Nat), t < xs.length * k → (xs.flatMap enc)[t]? = (enc xs[t / k]!)[t % k]?
  | [], t, h => by simp at h
  | x :: r, t, h => by
    rw [List.flatMap_cons]
    have hk0 : 0 < k := by
      rcases Nat.eq_zero_or_pos k with h0 | h0
      · subst h0; simp at h
      · exact h0
    by_cases ht : t < k
    · rw [List.getElem?_append_left (by rw [hk]; exact ht), Nat.div_eq_of_lt ht, Nat.mod_eq_of_lt ht]
      rfl
    · have hle : k ≤ t := by omega
      rw [List.getElem?_append_right (by rw [hk]; exact hle), hk, flatMap_get hk r (t - k) (by rw [List.length_cons, Nat.succ_mul] at h; omega)]
      have e1 : t / k = (t - k) / k + 1 := by
        rw [Nat.div_eq_sub_div hk0 hle]
      have e2 : t % k = (t - k) % k := by rw [Nat.mod_eq_sub_mod hle]
      rw [e1, e2]
      rfl
theorem flatK_eq (hk : ∀ x, (enc x).length = k) (xs : List α) : flatK enc k xs.toArray = (xs.flatMap enc).toArray := by
  apply Array.ext
  · rw [size_flatK]; simp [flatMap_len hk]
  · intro t h1 h2
    have ht : t < xs.length * k := by rw [size_flatK] at h1; simpa using h1
    have hk0 : 0 < k := by
      rcases Nat.eq_zero_or_pos k with h0 | h0
      · subst h0; simp at ht
      · exact h0
    have h3 := get_flatK enc k xs.toArray t (by simpa using ht)
    rw [getElem!_pos _ t h1] at h3
    rw [h3]
    have h4 := flatMap_get hk xs t ht
    have h5 : (xs.flatMap enc)[t]? = some ((xs.flatMap enc).toArray[t]) := by
      rw [List.getElem_toArray]; exact List.getElem?_eq_getElem _
    rw [h5] at h4
    have hm : t % k < (enc xs[t / k]!).length := by rw [hk]; exact Nat.mod_lt _ hk0
    rw [List.getElem?_eq_getElem hm] at h4
    have : xs.toArray[t / k]! = xs[t / k]! := by simp
    rw [this, getElem!_pos (enc xs[t / k]!) (t % k) hm]
    exact (Option.some.inj h4).symm

theorem putCells_eq {D rest A : List Value} (h : D.length = A.length) : putCells id 0 D.toArray (A ++ rest).toArray = (D ++ rest).toArray := by
  apply Array.ext
  · simp [putCells, h]
  · intro t h1 h2
    simp only [putCells, Array.getElem_mapIdx]
    by_cases ht : t < D.length
    · rw [if_pos (by simp; omega)]
      rw [getElem!_pos _ (t - 0) (by simpa using ht)]
      simp [List.getElem_append_left ht]
    · rw [if_neg (by simp; omega)]
      have h3 : A.length ≤ t := by omega
      simp only [List.getElem_toArray]
      rw [List.getElem_append_right h3, List.getElem_append_right (by omega)]
      simp [h]

theorem Sat.growN {G w : World} {L : List HP} (H : Sat G w L) (os : Array Obj) : Sat G (grow w os) L :=
  ⟨H.os, H.tape, H.output, H.gone, by
    obtain ⟨h, h1, h2⟩ := H.mem
    refine ⟨h, h1, fun i o hi => ?_⟩
    have := h2 i o hi
    have hlt := (Array.getElem?_eq_some_iff.1 this).1
    show (w.heap ++ os)[i]? = some o
    rw [Array.getElem?_append_left hlt]; exact this⟩
theorem sat_sortWorld {G w : World} {F : List HP} {b e n : Nat} {xs xs' : List α} {rest : List Value} {os : Array Obj} (hk : ∀ x, (enc x).length = k) (hl : xs'.length = xs.length)
    (H : Sat G w (Blk b (.cells (xs.flatMap enc ++ rest).toArray e (0, 0)) :: F)) : Sat G (sortWorldK enc k w b 0 n xs'.toArray os) (Blk b (.cells (xs'.flatMap enc ++ rest).toArray e (0, 0)) :: F) := by
  unfold sortWorldK
  refine Sat.growN ?_ os
  have H' : Sat G (Sort.ahead w n) (Blk b (.cells (xs.flatMap enc ++ rest).toArray e (0, 0)) :: F) := H.drawn (w.drawn + n)
  have hb := H'.blk
  unfold putRowK
  rw [flatK_eq hk]
  refine H'.set ?_ (fun i hi => ?_) rfl rfl rfl
  · simp only [putRow, mapBlock, Array.getElem?_modify, if_true, hb, Option.map_some, onCells]
    rw [putCells_eq]
    rw [flatMap_len hk, flatMap_len hk, hl]
  · simp only [putRow, mapBlock, Array.getElem?_modify]
    rw [if_neg (fun e => hi e.symm)]
theorem holdsK_of {G w : World} {F : List HP} {b e : Nat} {xs : List α} {rest : List Value} (hk : ∀ x, (enc x).length = k) (H : Sat G w (Blk b (.cells (xs.flatMap enc ++ rest).toArray e (0, 0)) :: F)) : HoldsK enc k w b 0 xs.toArray := by
  intro j hj
  have hb := H.blk
  rw [size_flatK] at hj
  have hlen : j < (xs.flatMap enc).length := by rw [flatMap_len hk]; simpa using hj
  rw [flatK_eq hk, Nat.zero_add]
  refine ⟨?_, ?_⟩
  · rw [cell_of hb]
    simp only [List.getElem?_toArray, List.getElem?_append_left hlen, id]
    rw [List.getElem?_eq_getElem hlen, getElem!_pos _ j (by simpa using hlen)]
    simp
  · simp [World.frozen?, hb]
omit [Inhabited α] in
theorem grown_of_sat {W w' : World} {L : List HP} (H : Sat W w' L) (hm : Old W ∈ L) : ∃ q os', w' = grow (W.drewN q) os' := by
  refine ⟨w'.drawn - W.drawn, w'.heap.extract W.heap.size w'.heap.size, ?_⟩
  have hsz := H.size hm
  have hheap : w'.heap = W.heap ++ w'.heap.extract W.heap.size w'.heap.size := by
    apply Array.ext_getElem?
    intro i
    rcases Nat.lt_or_ge i W.heap.size with h | h
    · rw [Array.getElem?_append_left h, Array.getElem?_eq_getElem h]
      exact H.oldOf hm (Array.getElem?_eq_getElem h)
    · rw [Array.getElem?_append_right h, Array.getElem?_extract]
      split
      · congr 1; omega
      · rw [Array.getElem?_eq_none]; omega
  have h1 := H.os
  have h2 := H.tape
  have h3 := H.output
  have h4 := H.gone
  have h5 : W.drawn + (w'.drawn - W.drawn) = w'.drawn := by omega
  unfold grow World.drewN
  simp only
  rw [← hheap, h5, ← h1, ← h2, ← h3]
end

/-- slices.SortFunc over rows that are ours, under an order that parts any two. -/
theorem sortK_spec {P : Program} {ρ : Ren} {α : Type} {enc : α → List Value} {k e : Nat} (Ly : SlLaysF0.n6 P ρ) (aE : ∀ w, (isAgg (ρ.t 24)).run P w = .ok true w) (zE : ∀ w, (Go.sizeOf (ρ.t 24)).run P w = .ok k w)
    (hk : ∀ x, (enc x).length = k) (h1 : ∀ x, ∀ v ∈ enc x, v.oneCell' = true) (cf : α → α → Int) (hO : SWO (ltOf cf)) (hT : ∀ x y, (ltOf cf) x y = false → (ltOf cf) y x = false → x = y) (g : Nat) (cb : List Value) (eg : bodyT P g = true)
    {G : World} {F : List HP} {v : Value} {xs : List α} (hsz : xs.length < 4611686018427387904)
    (hcmp : ∀ W b C, Sat G W (Blk b (.cells C e (0, 0)) :: F) → ∀ x y : α, Spec P W g ([.agg (enc x).toArray, .agg (enc y).toArray] ++ cb) [Old W] fun u L' => u = .int .i64 (cf x y) ∧ Old W ∈ L') :
    Spec P G (ρ.f 6) [v, .func (.func g) #[] cb.toArray] (OwnSl e k xs.length v (xs.flatMap enc) :: F) fun u L' => u = .tuple #[] ∧ L' = OwnSl e k xs.length v ((xs.mergeSort fun x y => !(ltOf cf) y x).flatMap enc) :: F := by
  refine ⟨fun w hw => ?_⟩
  have hvs : ∃ base cap, v = .slice base xs.length cap := by
    rcases sat_ownCases hw with ⟨h1, h2, _⟩ | ⟨b, cap, rest, h1, _⟩
    · exact ⟨none, 0, by rw [h1, h2]⟩
    · exact ⟨_, cap, h1⟩
  obtain ⟨base, cap, rfl⟩ := hvs
  cases hx : xs with
  | nil =>
    subst hx
    refine (AnyF.slices_SortFunc_none Ly base cap _ w).mono ?_
    rintro e' w' ⟨h2, rfl⟩
    refine ⟨_, _, ⟨rfl, rfl⟩, h2, ?_⟩
    rw [List.mergeSort_nil]
    exact hw
  | cons x0 r0 =>
    haveI : Inhabited α := ⟨x0⟩
    rw [← hx]
    rcases sat_ownCases hw with ⟨q1, q2, _⟩ | ⟨b, cap', rest, q1, q2, q3, q4, hw2⟩
    · rw [hx] at q2; simp at q2
    · injection q1 with q1 _ q5
      subst q1; subst q5
      have hblk : b < w.heap.size := (Array.getElem?_eq_some_iff.1 hw2.blk).1
      have hH := holdsK_of hk hw2
      have hc := AnyQ.slices_SortFunc_total Ly k aE zE enc hk h1 cf hO g cb.toArray b 0 cap xs.toArray w (fun args w => run_callFunc eg args) ?_ hH hblk (by simpa using hsz) hT
      · simp only [List.size_toArray] at hc
        refine hc.mono ?_
        rintro e' w' ⟨h2, n, os, h3⟩
        have hlen : (xs.mergeSort fun x y => !(ltOf cf) y x).length = xs.length := List.length_mergeSort xs
        have hs := sat_sortWorld (os := os) (n := n) hk hlen hw2
        refine ⟨_, _, ⟨rfl, rfl⟩, h2, ?_⟩
        rw [h3]
        refine sat_ownBlk q2 ?_ ?_ hs
        · rw [flatMap_len hk, hlen]
        · rw [List.length_append, flatMap_len hk, hlen, ← q3, ← List.length_append]; exact q4
      · intro m os dk hdk x y
        have hs : Sat G (sortWorldK enc k w b 0 m dk os) (Blk b (.cells (dk.toList.flatMap enc ++ rest).toArray e (0, 0)) :: F) := by
          have := sat_sortWorld (xs' := dk.toList) (os := os) (n := m) hk (by simpa using hdk) hw2
          simpa using this
        have hsp := (hcmp _ b _ hs x y).run _ (sat_start _)
        have e0 : ([Value.agg (enc x).toArray, .agg (enc y).toArray] ++ cb).toArray = #[Value.agg (enc x).toArray, .agg (enc y).toArray] ++ cb.toArray := by simp
        rw [e0] at hsp
        refine hsp.mono ?_
        rintro e' w' ⟨u, L', ⟨rfl, hm⟩, he, hw'⟩
        exact ⟨he, grown_of_sat hw' hm⟩
end Go.PS
