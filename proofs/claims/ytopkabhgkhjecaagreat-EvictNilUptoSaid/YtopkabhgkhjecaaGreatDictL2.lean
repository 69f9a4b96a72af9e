/-
  What a change of one chain does to the blocks of a table.
  Conditions: none.
-/
import Derived.Test.YtopkabhgkhjecaaGreatDictL
namespace Go.PS
open Go
variable (τ : TyD)

theorem tab_split {t : List (List Ent)} {i : Nat} {c : List Ent} (tb : Nat) (h : t[i]? = some c) : ∃ Z, (tabL τ tb t).Perm (Blk tb (.cells (tabCells t) τ.row (0, 0)) :: (chainP τ none c ++ Z)) ∧
    ∀ c', (tabL τ tb (t.set i c')).Perm (Blk tb (.cells ((tabCells t).setIfInBounds i (.pointer (headP none c'))) τ.row (0, 0)) :: (chainP τ none c' ++ Z)) := by
  obtain ⟨Z, h1, h2⟩ := row_split τ h
  have hlt := (List.getElem?_eq_some_iff.1 h).1
  have hne : t ≠ [] := by intro e; subst e; simp at hlt
  have hne' : ∀ c', t.set i c' ≠ [] := by intro c' e; have := congrArg List.length e; simp at this; exact hne this
  refine ⟨Z, ?_, fun c' => ?_⟩
  · rw [tabL_cons τ hne]; exact h1.cons _
  · rw [tabL_cons τ (hne' c'), tabCells_set]; exact (h2 c').cons _

theorem tabCells_same {t : List (List Ent)} {i : Nat} {c : List Ent} (h : t[i]? = some c) : (tabCells t).setIfInBounds i (.pointer (headP none c)) = tabCells t := by
  rw [← tabCells_set]
  congr 1
  obtain ⟨hi, rfl⟩ := List.getElem?_eq_some_iff.1 h
  exact List.set_getElem_self hi

theorem headP_set {c : List Ent} {j : Nat} {k : ByteArray} {e : Nat} {v v' : Value} (h : c[j]? = some (k, e, v)) : headP none (c.set j (k, e, v')) = headP none c := by
  cases c with
  | nil => rfl
  | cons x r => cases j with
    | zero => simp at h; subst h; rfl
    | succ j => rfl

/-- An entry of a table, and the table with another value there. -/
theorem entry_split {t : List (List Ent)} {i j : Nat} {c : List Ent} {k : ByteArray} {e : Nat} {v : Value} (tb : Nat) (h : t[i]? = some c) (hj : c[j]? = some (k, e, v)) :
    ∃ Z nx, (tabL τ tb t).Perm (Blk e (.cells #[.string k, v, nx] τ.ent (0, 0)) :: Z) ∧ ∀ v', (tabL τ tb (t.set i (c.set j (k, e, v')))).Perm (Blk e (.cells #[.string k, v', nx] τ.ent (0, 0)) :: Z) := by
  obtain ⟨Z1, a1, a2⟩ := tab_split τ tb h
  obtain ⟨Z2, b1, b2⟩ := chain_split τ hj
  refine ⟨Blk tb (.cells (tabCells t) τ.row (0, 0)) :: (Z2 ++ Z1), .pointer (headP none (c.drop (j + 1))), ?_, fun v' => ?_⟩
  · exact a1.trans (((b1.append_right Z1).cons _).trans (.swap _ _ _))
  · refine (a2 _).trans ?_
    rw [headP_set hj, tabCells_same h]
    exact (((b2 v').append_right Z1).cons _).trans (.swap _ _ _)

/-- A link of a table and the entry it leads to, and the table without that entry. -/
theorem link_split {t : List (List Ent)} {i j : Nat} {c : List Ent} {k : ByteArray} {e : Nat} {v : Value} (tb : Nat) (h : t[i]? = some c) (hj : c[j]? = some (k, e, v)) :
    ∃ Z C T bb off, locOf tb i c j = ⟨bb, off, none⟩ ∧ off < C.size ∧ C[off]? = some (.pointer (some ⟨e, 0, none⟩)) ∧
      (tabL τ tb t).Perm (Blk bb (.cells C T (0, 0)) :: Blk e (.cells #[.string k, v, .pointer (headP none (c.drop (j + 1)))] τ.ent (0, 0)) :: Z) ∧
      (tabL τ tb (t.set i (c.eraseIdx j))).Perm (Blk bb (.cells (C.setIfInBounds off (.pointer (headP none (c.drop (j + 1))))) T (0, 0)) :: Z) := by
  obtain ⟨Z1, a1, a2⟩ := tab_split τ tb h
  have hlt := (List.getElem?_eq_some_iff.1 h).1
  cases j with
  | zero =>
    cases c with
    | nil => simp at hj
    | cons x r =>
      simp at hj; subst hj
      refine ⟨chainP τ none r ++ Z1, tabCells t, τ.row, tb, i, rfl, by rw [tabCells_size]; exact hlt, tabCells_get h, ?_, ?_⟩
      · exact a1
      · exact a2 r
  | succ j =>
    obtain ⟨⟨k0, e0, v0⟩, hj0⟩ : ∃ x, c[j]? = some x := ⟨c[j]'(by have := (List.getElem?_eq_some_iff.1 hj).1; omega), by simp⟩
    obtain ⟨Z2, b1, b2⟩ := chain_split2 τ hj0 hj
    have hh : headP none (c.eraseIdx (j + 1)) = headP none c := by
      cases c with
      | nil => rfl
      | cons x r => rfl
    refine ⟨Blk tb (.cells (tabCells t) τ.row (0, 0)) :: (Z2 ++ Z1), #[.string k0, v0, .pointer (some ⟨e, 0, none⟩)], τ.ent, e0, 2, by simp [locOf, hj0], by simp, rfl, ?_, ?_⟩
    · refine a1.trans ((((b1.append_right Z1)).cons _).trans ?_)
      exact (List.Perm.swap _ _ _).trans (.cons _ (.swap _ _ _))
    · refine (a2 _).trans ?_
      rw [hh, tabCells_same h]
      exact ((b2.append_right Z1).cons _).trans (.swap _ _ _)

theorem lay_perm1 {tb : Nat} {seed : Int} {t : List (List Ent)} {k : ByteArray} {e : Nat} {v : Value} {c : List Ent} {X : List HP} (hc : t[slot seed k t.length]? = some c) :
    (Blk e (.cells #[.string k, v, .pointer (headP none c)] τ.ent (0, 0)) :: Blk tb (.cells ((tabCells t).setIfInBounds (slot seed k t.length) (.pointer (some ⟨e, 0, none⟩))) τ.row (0, 0)) :: (rowL τ t ++ X)).Perm
      (tabL τ tb (D.lay seed t (k, e, v)) ++ X) := by
  have hlt := (List.getElem?_eq_some_iff.1 hc).1
  have hne : D.lay seed t (k, e, v) ≠ [] := by
    intro h; have := congrArg List.length h; rw [D.lay_length] at this; simp at this; subst this; simp at hlt
  rw [tabL_cons τ hne, lay_eq (x := (k, e, v)) hc, tabCells_set]
  obtain ⟨Z, h1, h2⟩ := row_split τ hc
  have h3 : (Blk e (.cells #[.string k, v, .pointer (headP none c)] τ.ent (0, 0)) :: rowL τ t).Perm (rowL τ (t.set (slot seed k t.length) ((k, e, v) :: c))) :=
    (h1.cons _).trans (h2 ((k, e, v) :: c)).symm
  exact (List.Perm.swap _ _ _).trans ((h3.append_right X).cons _)

/-! ### The whole table -/
theorem dict_perm {b to ty : Nat} {d : D (Nat × Value)} {F X : List HP} (h : (tabL τ to d.old ++ tabL τ ty d.young).Perm X) : (dictL τ b d to ty ++ F).Perm (Blk b (.cells (dictCells d to ty) τ.dict (0, 0)) :: (X ++ F)) :=
  (h.append_right F).cons _
theorem tabV_set {tb i : Nat} {t : List (List Ent)} {c : List Ent} : tabV tb (t.set i c) = tabV tb t := by
  cases t with
  | nil => rfl
  | cons x r => cases i <;> simp [tabV]

def tabA (tb : Nat) (t : List (List Ent)) : Option Addr := if t = [] then none else some ⟨tb, 0, none⟩
theorem tabV_slice (tb : Nat) (t : List (List Ent)) : tabV tb t = .slice (tabA tb t) t.length t.length := by
  unfold tabV tabA
  split
  · rename_i h; subst h; rfl
  · rfl
/-- A key that is found: its chain, its entry, and what a change of its chain makes. -/
theorem D.found {α : Type} {d : D α} {key : ByteArray} (h : (d.find key).isSome) : ∃ (c : List (ByteArray × α)) (j : Nat) (a : α), D.idx c key = some j ∧ c[j]? = some (key, a) ∧ d.find key = some a ∧
    ((d.old[slot d.seed key d.old.length]? = some c ∧ (inTab d.seed d.old key).isSome ∧ ∀ g, d.change key g = { d with old := d.old.set (slot d.seed key d.old.length) (g c) }) ∨
     (d.young[slot d.seed key d.young.length]? = some c ∧ inTab d.seed d.old key = none ∧ ∀ g, d.change key g = { d with young := d.young.set (slot d.seed key d.young.length) (g c) })) := by
  have key1 : ∀ (t : List (List (ByteArray × α))) a, inTab d.seed t key = some a → ∃ c j, t[slot d.seed key t.length]? = some c ∧ D.idx c key = some j ∧ c[j]? = some (key, a) := by
    intro t a ha
    unfold inTab at ha
    split at ha
    · rename_i c hc
      rw [idx_find] at ha
      cases hj : D.idx c key with
      | none => rw [hj] at ha; cases ha
      | some j =>
        rw [hj] at ha
        refine ⟨c, j, hc, hj, ?_⟩
        unfold D.idx at hj
        rw [List.findIdx?_eq_some_iff_getElem] at hj
        obtain ⟨h1, h2, _⟩ := hj
        simp only [Option.bind_some, List.getElem?_eq_getElem h1, Option.map_some, Option.some.injEq] at ha ⊢
        have h2' : c[j].1 = key := by simpa using h2
        rw [← ha, ← h2']
    · cases ha
  cases ho : inTab d.seed d.old key with
  | some a =>
    obtain ⟨c, j, h1, h2, h3⟩ := key1 _ _ ho
    refine ⟨c, j, a, h2, h3, by unfold D.find; rw [ho]; rfl, .inl ⟨h1, rfl, fun g => ?_⟩⟩
    unfold D.change D.atSlot
    rw [if_pos (by rw [ho]; rfl), List.modify_eq_set, h1]; rfl
  | none =>
    cases hy : inTab d.seed d.young key with
    | none => unfold D.find at h; rw [ho, hy] at h; cases h
    | some a =>
      obtain ⟨c, j, h1, h2, h3⟩ := key1 _ _ hy
      refine ⟨c, j, a, h2, h3, by unfold D.find; rw [ho, hy]; rfl, .inr ⟨h1, rfl, fun g => ?_⟩⟩
      unfold D.change D.atSlot
      rw [if_neg (by rw [ho]; simp), List.modify_eq_set, h1]; rfl

theorem linkLoc_at {tb : Nat} {seed : Int} {t : List (List Ent)} {key : ByteArray} {c : List Ent} {j : Nat} (h1 : t[slot seed key t.length]? = some c) (h2 : D.idx c key = some j) : linkLoc tb seed t key = some (locOf tb (slot seed key t.length) c j) := by
  unfold linkLoc
  rw [h1]
  simp [idxOf, h2]
theorem linkLoc_none {tb : Nat} {seed : Int} {t : List (List Ent)} {key : ByteArray} (h : D.inTab seed t key = none) : linkLoc tb seed t key = none := by
  unfold linkLoc
  unfold D.inTab at h
  split at h
  · rename_i c hc
    rw [hc]
    cases hj : D.idx c key with
    | none => simp [idxOf, hj]
    | some j =>
      obtain ⟨e, v, he⟩ := idxOf_get hj
      rw [D.idx_find, hj] at h
      simp [he] at h
  · rename_i hc; rw [hc]

/-- The link that is found leads to the entry. -/
theorem dict_find {G : World} {L : List HP} {to ty : Nat} {d : D (Nat × Value)} {key : ByteArray} (h : (d.find key).isSome) (hR : TabR G L to d.old ∧ TabR G L ty d.young) :
    ∃ e v bb off cells nx, d.find key = some (e, v) ∧ (linkLoc to d.seed d.old key).or (linkLoc ty d.seed d.young key) = some ⟨bb, off, none⟩ ∧ Reads G L bb cells ∧ cells[off]? = some (.pointer (some ⟨e, 0, none⟩)) ∧ Reads G L e #[.string key, v, .pointer nx] := by
  cases h1 : linkLoc to d.seed d.old key with
  | some p =>
    obtain ⟨c, j, e, v, _, _, _, _, hin, bb, off, cells, nx, rfl, hrd, hcell, hre⟩ := link_found h1 hR.1
    exact ⟨e, v, bb, off, cells, nx, by unfold D.find; rw [hin]; rfl, rfl, hrd, hcell, hre⟩
  | none =>
    have h1' := link_none h1
    cases h2 : linkLoc ty d.seed d.young key with
    | some p =>
      obtain ⟨c, j, e, v, _, _, _, _, hin, bb, off, cells, nx, rfl, hrd, hcell, hre⟩ := link_found h2 hR.2
      exact ⟨e, v, bb, off, cells, nx, by unfold D.find; rw [h1', hin]; rfl, rfl, hrd, hcell, hre⟩
    | none =>
      have h2' := link_none h2
      unfold D.find at h; rw [h1', h2'] at h; cases h
theorem dict_lost {to ty : Nat} {d : D (Nat × Value)} {key : ByteArray} (h : d.find key = none) : (linkLoc to d.seed d.old key).or (linkLoc ty d.seed d.young key) = none := by
  unfold D.find at h
  rw [Option.or_eq_none_iff] at h
  rw [linkLoc_none h.1, linkLoc_none h.2]; rfl

/-- What is under a key is changed in its place. -/
theorem dict_upd {b to ty e : Nat} {v : Value} {d : D (Nat × Value)} {key : ByteArray} (h : d.find key = some (e, v)) (F : List HP) : ∃ Z nx, (dictL τ b d to ty ++ F).Perm (Blk e (.cells #[.string key, v, nx] τ.ent (0, 0)) :: Z) ∧
    ∀ f v', f (e, v) = (e, v') → (dictL τ b (d.upd key f) to ty ++ F).Perm (Blk e (.cells #[.string key, v', nx] τ.ent (0, 0)) :: Z) := by
  obtain ⟨c, j, a, h1, h2, h3, hw⟩ := D.found (d := d) (key := key) (by rw [h]; rfl)
  rw [h] at h3
  injection h3 with h3
  subst h3
  have hu : ∀ f v', f (e, v) = (e, v') → D.updChain key f c = c.set j (key, e, v') := by
    intro f v' hf
    unfold D.updChain
    rw [h1]
    simp only [List.modify_eq_set, h2, Option.map_some, Option.getD_some, hf]
  rcases hw with ⟨g1, g2, g3⟩ | ⟨g1, g2, g3⟩
  · obtain ⟨Z, nx, p1, p2⟩ := entry_split τ to g1 h2
    refine ⟨Blk b (.cells (dictCells d to ty) τ.dict (0, 0)) :: (Z ++ (tabL τ ty d.young ++ F)), nx, ?_, fun f v' hf => ?_⟩
    · unfold dictL
      rw [List.cons_append, List.append_assoc]
      exact ((p1.append_right _).cons _).trans (.swap _ _ _)
    · have : d.upd key f = { d with old := d.old.set (slot d.seed key d.old.length) (c.set j (key, e, v')) } := by unfold D.upd; rw [g3, hu f v' hf]
      rw [this]
      unfold dictL dictCells
      simp only [tabV_set]
      rw [List.cons_append, List.append_assoc]
      exact (((p2 v').append_right _).cons _).trans (.swap _ _ _)
  · obtain ⟨Z, nx, p1, p2⟩ := entry_split τ ty g1 h2
    refine ⟨Blk b (.cells (dictCells d to ty) τ.dict (0, 0)) :: (Z ++ (tabL τ to d.old ++ F)), nx, ?_, fun f v' hf => ?_⟩
    · unfold dictL
      rw [List.cons_append, List.append_assoc]
      refine List.Perm.trans ((List.perm_append_comm_assoc _ _ _).cons _) ?_
      exact ((p1.append_right _).cons _).trans (.swap _ _ _)
    · have : d.upd key f = { d with young := d.young.set (slot d.seed key d.young.length) (c.set j (key, e, v')) } := by unfold D.upd; rw [g3, hu f v' hf]
      rw [this]
      unfold dictL dictCells
      simp only [tabV_set]
      rw [List.cons_append, List.append_assoc]
      refine List.Perm.trans ((List.perm_append_comm_assoc _ _ _).cons _) ?_
      exact (((p2 v').append_right _).cons _).trans (.swap _ _ _)

/-- A key's entry is taken out: the link goes past it. -/
theorem dict_del {b to ty e : Nat} {v : Value} {d : D (Nat × Value)} {key : ByteArray} (h : d.find key = some (e, v)) (F : List HP) : ∃ Z C T bb off nx, (linkLoc to d.seed d.old key).or (linkLoc ty d.seed d.young key) = some ⟨bb, off, none⟩ ∧
    off < C.size ∧ C[off]? = some (.pointer (some ⟨e, 0, none⟩)) ∧
    (dictL τ b d to ty ++ F).Perm (Blk bb (.cells C T (0, 0)) :: Blk e (.cells #[.string key, v, .pointer nx] τ.ent (0, 0)) :: Blk b (.cells (dictCells d to ty) τ.dict (0, 0)) :: Z) ∧
    ∀ n, (dictL τ b { d.change key (D.delChain key) with n := n } to ty ++ F).Perm (Blk bb (.cells (C.setIfInBounds off (.pointer nx)) T (0, 0)) :: Blk b (.cells #[.int .u64 d.seed, tabV to d.old, tabV ty d.young, .int .i64 d.at_, .int .i64 n] τ.dict (0, 0)) :: Z) := by
  obtain ⟨c, j, a, h1, h2, h3, hw⟩ := D.found (d := d) (key := key) (by rw [h]; rfl)
  rw [h] at h3
  injection h3 with h3
  subst h3
  have hu : D.delChain key c = c.eraseIdx j := by
    unfold D.delChain
    rw [h1]
  rcases hw with ⟨g1, g2, g3⟩ | ⟨g1, g2, g3⟩
  · obtain ⟨Z, C, T, bb, off, q1, q2, q3, p1, p2⟩ := link_split τ to g1 h2
    refine ⟨Z ++ (tabL τ ty d.young ++ F), C, T, bb, off, headP none (c.drop (j + 1)), by rw [linkLoc_at g1 h1, q1]; rfl, q2, q3, ?_, fun n => ?_⟩
    · unfold dictL
      rw [List.cons_append, List.append_assoc]
      exact ((p1.append_right _).cons _).trans ((List.Perm.swap _ _ _).trans (.cons _ (.swap _ _ _)))
    · rw [g3, hu]
      unfold dictL dictCells
      simp only [tabV_set]
      rw [List.cons_append, List.append_assoc]
      exact ((p2.append_right _).cons _).trans (.swap _ _ _)
  · obtain ⟨Z, C, T, bb, off, q1, q2, q3, p1, p2⟩ := link_split τ ty g1 h2
    refine ⟨Z ++ (tabL τ to d.old ++ F), C, T, bb, off, headP none (c.drop (j + 1)), by rw [linkLoc_none g2, linkLoc_at g1 h1, q1]; rfl, q2, q3, ?_, fun n => ?_⟩
    · unfold dictL
      rw [List.cons_append, List.append_assoc]
      refine List.Perm.trans ((List.perm_append_comm_assoc _ _ _).cons _) ?_
      exact ((p1.append_right _).cons _).trans ((List.Perm.swap _ _ _).trans (.cons _ (.swap _ _ _)))
    · rw [g3, hu]
      unfold dictL dictCells
      simp only [tabV_set]
      rw [List.cons_append, List.append_assoc]
      refine List.Perm.trans ((List.perm_append_comm_assoc _ _ _).cons _) ?_
      exact ((p2.append_right _).cons _).trans (.swap _ _ _)
end Go.PS
