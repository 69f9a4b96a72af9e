/-
  Where a table lies in memory, as lists of blocks; what a change of one chain does to them.
  Conditions: none.
-/
import Derived.Test.YtopkabhgkhjecaaGreatDictM
namespace Go.PS
open Go

abbrev Ent := ByteArray × (Nat × Value)
/-- The numbers of the types that a table of this program is made of: the entry, the row of buckets, the table itself. -/
structure TyD where
  ent : Nat
  row : Nat
  dict : Nat
variable (τ : TyD)
def headP (t : Option Addr) : List Ent → Option Addr
  | [] => t
  | (_, e, _) :: _ => some ⟨e, 0, none⟩
/-- A chain whose last one points to 't'. -/
def chainP (t : Option Addr) : List Ent → List HP
  | [] => []
  | (k, e, v) :: r => Blk e (.cells #[.string k, v, .pointer (headP t r)] τ.ent (0, 0)) :: chainP t r
def tabCells (bs : List (List Ent)) : Array Value := (bs.map fun c => Value.pointer (headP none c)).toArray
def rowL (bs : List (List Ent)) : List HP := bs.flatMap (chainP τ none)
def tabL (tb : Nat) (bs : List (List Ent)) : List HP := if bs = [] then [] else Blk tb (.cells (tabCells bs) τ.row (0, 0)) :: rowL τ bs
def tabV (tb : Nat) (bs : List (List Ent)) : Value := if bs = [] then .slice none 0 0 else .slice (some ⟨tb, 0, none⟩) bs.length bs.length
abbrev dictCells (d : D (Nat × Value)) (to ty : Nat) : Array Value := #[.int .u64 d.seed, tabV to d.old, tabV ty d.young, .int .i64 d.at_, .int .i64 d.n]
def dictL (b : Nat) (d : D (Nat × Value)) (to ty : Nat) : List HP := Blk b (.cells (dictCells d to ty) τ.dict (0, 0)) :: (tabL τ to d.old ++ tabL τ ty d.young)

theorem tabCells_size (bs : List (List Ent)) : (tabCells bs).size = bs.length := by simp [tabCells]
theorem tabCells_get {bs : List (List Ent)} {i : Nat} {c : List Ent} (h : bs[i]? = some c) : (tabCells bs)[i]? = some (.pointer (headP none c)) := by simp [tabCells, h]
theorem tabL_cons {tb : Nat} {bs : List (List Ent)} (h : bs ≠ []) : tabL τ tb bs = Blk tb (.cells (tabCells bs) τ.row (0, 0)) :: rowL τ bs := if_neg h
theorem tabL_nil {tb : Nat} : tabL τ tb [] = [] := rfl
theorem tabV_cons {tb : Nat} {bs : List (List Ent)} (h : bs ≠ []) : tabV tb bs = .slice (some ⟨tb, 0, none⟩) bs.length bs.length := if_neg h
theorem tabV_nil {tb : Nat} : tabV tb [] = .slice none 0 0 := rfl

theorem chainP_append (t : Option Addr) (a b : List Ent) : chainP τ t (a ++ b) = chainP τ (headP t b) a ++ chainP τ t b := by
  induction a with
  | nil => rfl
  | cons x r ih =>
    obtain ⟨k, e, v⟩ := x
    have hh : headP t (r ++ b) = headP (headP t b) r := by cases r <;> rfl
    simp only [List.cons_append, chainP, ih, hh]

/-- One bucket, taken out of a row. -/
theorem row_split {bs : List (List Ent)} {i : Nat} {c : List Ent} (h : bs[i]? = some c) : ∃ Z, (rowL τ bs).Perm (chainP τ none c ++ Z) ∧ ∀ c', (rowL τ (bs.set i c')).Perm (chainP τ none c' ++ Z) := by
  obtain ⟨hi, rfl⟩ := List.getElem?_eq_some_iff.1 h
  refine ⟨rowL τ (bs.take i) ++ rowL τ (bs.drop (i + 1)), ?_, fun c' => ?_⟩
  · have e : bs = bs.take i ++ bs[i] :: bs.drop (i + 1) := by rw [← List.drop_eq_getElem_cons hi, List.take_append_drop]
    have : rowL τ bs = rowL τ (bs.take i) ++ (chainP τ none bs[i] ++ rowL τ (bs.drop (i + 1))) := by
      unfold rowL
      conv => lhs; rw [e]
      rw [List.flatMap_append, List.flatMap_cons]
    rw [this]
    exact List.perm_append_comm_assoc _ _ _
  · have : rowL τ (bs.set i c') = rowL τ (bs.take i) ++ (chainP τ none c' ++ rowL τ (bs.drop (i + 1))) := by
      rw [List.set_eq_take_append_cons_drop, if_pos hi]
      simp [rowL]
    rw [this]
    exact List.perm_append_comm_assoc _ _ _

theorem tabCells_set (bs : List (List Ent)) (i : Nat) (c : List Ent) : tabCells (bs.set i c) = (tabCells bs).setIfInBounds i (.pointer (headP none c)) := by
  unfold tabCells
  rw [List.map_set]
  simp

/-- A chain's entry, taken out of it. -/
theorem chain_split {c : List Ent} {j : Nat} {k : ByteArray} {e : Nat} {v : Value} (h : c[j]? = some (k, e, v)) :
    ∃ Z, (chainP τ none c).Perm (Blk e (.cells #[.string k, v, .pointer (headP none (c.drop (j + 1)))] τ.ent (0, 0)) :: Z) ∧
      ∀ v', (chainP τ none (c.set j (k, e, v'))).Perm (Blk e (.cells #[.string k, v', .pointer (headP none (c.drop (j + 1)))] τ.ent (0, 0)) :: Z) := by
  obtain ⟨hj, hg⟩ := List.getElem?_eq_some_iff.1 h
  refine ⟨chainP τ (some ⟨e, 0, none⟩) (c.take j) ++ chainP τ none (c.drop (j + 1)), ?_, fun v' => ?_⟩
  · have e1 : c = c.take j ++ (k, e, v) :: c.drop (j + 1) := by rw [← hg, ← List.drop_eq_getElem_cons hj, List.take_append_drop]
    conv => lhs; rw [e1, chainP_append]
    exact List.perm_middle
  · rw [List.set_eq_take_append_cons_drop, if_pos hj, chainP_append]
    exact List.perm_middle

/-- A chain's entry and the one ahead of it. -/
theorem chain_split2 {c : List Ent} {j : Nat} {k k' : ByteArray} {e e' : Nat} {v v' : Value} (h : c[j]? = some (k, e, v)) (h' : c[j + 1]? = some (k', e', v')) :
    ∃ Z, (chainP τ none c).Perm (Blk e (.cells #[.string k, v, .pointer (some ⟨e', 0, none⟩)] τ.ent (0, 0)) :: Blk e' (.cells #[.string k', v', .pointer (headP none (c.drop (j + 2)))] τ.ent (0, 0)) :: Z) ∧
      (chainP τ none (c.eraseIdx (j + 1))).Perm (Blk e (.cells #[.string k, v, .pointer (headP none (c.drop (j + 2)))] τ.ent (0, 0)) :: Z) := by
  obtain ⟨hj, hg⟩ := List.getElem?_eq_some_iff.1 h
  obtain ⟨hj', hg'⟩ := List.getElem?_eq_some_iff.1 h'
  refine ⟨chainP τ (some ⟨e, 0, none⟩) (c.take j) ++ chainP τ none (c.drop (j + 2)), ?_, ?_⟩
  · have e1 : c = c.take j ++ (k, e, v) :: (k', e', v') :: c.drop (j + 2) := by
      rw [← hg', ← List.drop_eq_getElem_cons hj', ← hg, ← List.drop_eq_getElem_cons hj, List.take_append_drop]
    conv => lhs; rw [e1, chainP_append]
    exact List.perm_middle.trans (.cons _ List.perm_middle)
  · have e1 : c.eraseIdx (j + 1) = c.take j ++ (k, e, v) :: c.drop (j + 2) := by
      rw [List.eraseIdx_eq_take_drop_succ, List.take_succ_eq_append_getElem hj, hg]; simp
    rw [e1, chainP_append]
    exact List.perm_middle
theorem headP_cons {t : Option Addr} {k : ByteArray} {e : Nat} {v : Value} {r : List Ent} : headP t ((k, e, v) :: r) = some ⟨e, 0, none⟩ := rfl
theorem headP_nil {t : Option Addr} : headP t [] = t := rfl
theorem chainP_nil {t : Option Addr} : chainP τ t [] = [] := rfl
theorem chain_head {c : List Ent} {k : ByteArray} {e : Nat} {v : Value} : chainP τ none ((k, e, v) :: c) = Blk e (.cells #[.string k, v, .pointer (headP none c)] τ.ent (0, 0)) :: chainP τ none c := rfl

theorem dict_open {b to ty : Nat} {d : D (Nat × Value)} {F : List HP} (ho : d.old ≠ []) (hy : d.young ≠ []) :
    (dictL τ b d to ty ++ F).Perm (Blk b (.cells #[.int .u64 d.seed, .slice (some ⟨to, 0, none⟩) d.old.length d.old.length, .slice (some ⟨ty, 0, none⟩) d.young.length d.young.length, .int .i64 d.at_, .int .i64 d.n] τ.dict (0, 0)) ::
      Blk to (.cells (tabCells d.old) τ.row (0, 0)) :: Blk ty (.cells (tabCells d.young) τ.row (0, 0)) :: (rowL τ d.old ++ (rowL τ d.young ++ F))) := by
  unfold dictL dictCells
  rw [tabL_cons τ ho, tabL_cons τ hy, tabV_cons ho, tabV_cons hy]
  simp only [List.cons_append, List.append_assoc]
  exact .cons _ (.cons _ List.perm_middle)

/-- The old table is given up. -/
theorem dict_turn {G w : World} {b to ty : Nat} {d : D (Nat × Value)} {F : List HP} {o : Obj} (hy : d.young ≠ [])
    (H : Sat G w (Blk b (.cells #[.int .u64 d.seed, .slice (some ⟨ty, 0, none⟩) d.young.length d.young.length, .slice none 0 0, .int .i64 0, .int .i64 d.n] τ.dict (0, 0)) ::
      Blk to o :: Blk ty (.cells (tabCells d.young) τ.row (0, 0)) :: (rowL τ d.old ++ (rowL τ d.young ++ F)))) :
    Sat G w (dictL τ b { d with old := d.young, young := [], at_ := 0 } ty 0 ++ F) := by
  have h1 := H.swap.tail
  have h2 : Sat G w (rowL τ d.old ++ (Blk b (.cells #[.int .u64 d.seed, .slice (some ⟨ty, 0, none⟩) d.young.length d.young.length, .slice none 0 0, .int .i64 0, .int .i64 d.n] τ.dict (0, 0)) ::
      Blk ty (.cells (tabCells d.young) τ.row (0, 0)) :: (rowL τ d.young ++ F))) :=
    h1.perm ((List.Perm.cons _ List.perm_middle.symm).trans List.perm_middle.symm)
  have h3 := h2.append_right
  unfold dictL dictCells
  rw [tabL_cons τ hy, tabV_cons hy, tabL_nil, tabV_nil]
  simpa using h3

/-! ### Reading -/
/-- A chain is there to be read. -/
def ChainR (G : World) (L : List HP) : List Ent → Prop
  | [] => True
  | (k, e, v) :: r => Reads G L e #[.string k, v, .pointer (headP none r)] ∧ ChainR G L r
theorem chainR_mem {G : World} {L : List HP} : ∀ {c : List Ent}, (∀ A ∈ chainP τ none c, A ∈ L) → ChainR G L c
  | [], _ => trivial
  | (_, _, _) :: _, h => ⟨reads_mem (h _ (.head _)), chainR_mem fun A hA => h A (.tail _ hA)⟩
def TabR (G : World) (L : List HP) (tb : Nat) (t : List (List Ent)) : Prop := t = [] ∨ (Reads G L tb (tabCells t) ∧ ∀ c ∈ t, ChainR G L c)
theorem tabR_mem {G : World} {L : List HP} {tb : Nat} {t : List (List Ent)} (h : ∀ A ∈ tabL τ tb t, A ∈ L) : TabR G L tb t := by
  by_cases e : t = []
  · exact .inl e
  · rw [tabL_cons τ e] at h
    exact .inr ⟨reads_mem (h _ (.head _)), fun c hc => chainR_mem τ fun A hA => h A (.tail _ (List.mem_flatMap.2 ⟨c, hc, hA⟩))⟩
theorem chainR_drop {G : World} {L : List HP} : ∀ {c : List Ent} (j : Nat), ChainR G L c → ChainR G L (c.drop j)
  | _, 0, h => h
  | [], _ + 1, _ => trivial
  | _ :: _, j + 1, h => chainR_drop j h.2

/-- Where the link to a chain's entry lies. -/
def locOf (tb i : Nat) (c : List Ent) : Nat → Addr
  | 0 => ⟨tb, i, none⟩
  | j + 1 => match c[j]? with
    | some (_, e, _) => ⟨e, 2, none⟩
    | none => ⟨tb, i, none⟩
abbrev idxOf (c : List Ent) (key : ByteArray) : Option Nat := D.idx c key
theorem idxOf_some {c : List Ent} {key : ByteArray} {j : Nat} {x : Ent} (h : c[j]? = some x) (hx : x.1 = key) (hn : ∀ y ∈ c.take j, y.1 ≠ key) : idxOf c key = some j := by
  unfold idxOf D.idx
  obtain ⟨hj, rfl⟩ := List.getElem?_eq_some_iff.1 h
  rw [List.findIdx?_eq_some_iff_getElem]
  refine ⟨hj, by simp [hx], fun i hi => ?_⟩
  have := hn c[i] (List.mem_take_iff_getElem.2 ⟨i, by omega, rfl⟩)
  simp [this]
theorem idxOf_none {c : List Ent} {key : ByteArray} (hn : ∀ y ∈ c, y.1 ≠ key) : idxOf c key = none := by
  unfold idxOf D.idx
  rw [List.findIdx?_eq_none_iff]
  intro x hx
  simp [hn x hx]
theorem idxOf_get {c : List Ent} {key : ByteArray} {j : Nat} (h : idxOf c key = some j) : ∃ e v, c[j]? = some (key, e, v) := by
  unfold idxOf D.idx at h
  rw [List.findIdx?_eq_some_iff_getElem] at h
  obtain ⟨hj, hk, _⟩ := h
  refine ⟨c[j].2.1, c[j].2.2, ?_⟩
  have hk' : c[j].1 = key := by simpa using hk
  rw [List.getElem?_eq_getElem hj, ← hk']
theorem take_snoc_all {c : List Ent} {j : Nat} {x : Ent} {p : Ent → Prop} (h : c[j]? = some x) (hp : ∀ y ∈ c.take j, p y) (hx : p x) : ∀ y ∈ c.take (j + 1), p y := by
  obtain ⟨hj, rfl⟩ := List.getElem?_eq_some_iff.1 h
  rw [List.take_succ_eq_append_getElem hj]
  intro y hy
  rcases List.mem_append.1 hy with hy | hy
  · exact hp y hy
  · rw [List.mem_singleton.1 hy]; exact hx
theorem loc_read {G : World} {L : List HP} {c : List Ent} {tb i j : Nat} {t : List (List Ent)} (hr : ChainR G L c) (ht : Reads G L tb (tabCells t)) (hc : t[i]? = some c) (hj : j ≤ c.length) :
    ∃ bb off cells, locOf tb i c j = ⟨bb, off, none⟩ ∧ Reads G L bb cells ∧ cells[off]? = some (.pointer (headP none (c.drop j))) := by
  cases j with
  | zero => exact ⟨tb, i, tabCells t, rfl, ht, by simp [tabCells, hc]⟩
  | succ j =>
    obtain ⟨⟨k, e, v⟩, he⟩ : ∃ x, c[j]? = some x := ⟨c[j], by simp⟩
    have hd := chainR_drop j hr
    rw [List.drop_eq_getElem_cons (by omega)] at hd
    have hget : c[j] = (k, e, v) := by have := List.getElem?_eq_getElem (l := c) (i := j) (by omega); rw [he] at this; exact (Option.some.inj this).symm
    rw [hget] at hd
    exact ⟨e, 2, _, by simp [locOf, he], hd.1, rfl⟩
theorem lay_eq {seed : Int} {t : List (List Ent)} {x : Ent} {c : List Ent} (hc : t[slot seed x.1 t.length]? = some c) : D.lay seed t x = t.set (slot seed x.1 t.length) (x :: c) := by
  unfold D.lay
  rw [List.modify_eq_set, hc]; rfl
theorem layAll_length {α : Type} (seed : Int) (c : List (ByteArray × α)) (t : List (List (ByteArray × α))) : (c.foldl (D.lay seed) t).length = t.length := D.layAll_length seed c t
/-- What 'hang' leaves is the table with the entry laid. -/
theorem lay_perm {b to ty : Nat} {ob oto : Obj} {seed : Int} {t : List (List Ent)} {k : ByteArray} {e : Nat} {v : Value} {c : List Ent} {X : List HP} (hc : t[slot seed k t.length]? = some c) :
    (Blk e (.cells #[.string k, v, .pointer (headP none c)] τ.ent (0, 0)) :: Blk ty (.cells ((tabCells t).setIfInBounds (slot seed k t.length) (.pointer (some ⟨e, 0, none⟩))) τ.row (0, 0)) :: Blk b ob :: Blk to oto :: (rowL τ t ++ X)).Perm
      (Blk b ob :: Blk to oto :: Blk ty (.cells (tabCells (D.lay seed t (k, e, v))) τ.row (0, 0)) :: (rowL τ (D.lay seed t (k, e, v)) ++ X)) := by
  rw [lay_eq (x := (k, e, v)) hc, tabCells_set]
  obtain ⟨Z, h1, h2⟩ := row_split τ hc
  have h3 : (Blk e (.cells #[.string k, v, .pointer (headP none c)] τ.ent (0, 0)) :: rowL τ t).Perm (rowL τ (t.set (slot seed k t.length) ((k, e, v) :: c))) :=
    (h1.cons _).trans (h2 ((k, e, v) :: c)).symm
  have h4 := h3.append_right X
  refine List.Perm.trans ?_ (((h4.cons _).cons _).cons _)
  simp only [List.cons_append]
  generalize (rowL τ t ++ X) = Y
  -- e ty b to Y  ~  b to ty e Y
  refine (List.Perm.swap _ _ _).trans ?_
  refine List.Perm.trans ?_ (List.Perm.trans (List.Perm.swap _ _ _) (List.Perm.cons _ (List.Perm.swap _ _ _)))
  exact (List.Perm.cons _ (List.Perm.trans (List.Perm.swap _ _ _) (List.Perm.cons _ (List.Perm.swap _ _ _))))
noncomputable def linkLoc (tb : Nat) (seed : Int) (t : List (List Ent)) (key : ByteArray) : Option Addr :=
  match t[slot seed key t.length]? with
  | some c => (idxOf c key).map (locOf tb (slot seed key t.length) c)
  | none => none

/-- What is found when a link is. -/
theorem link_found {G : World} {L : List HP} {tb : Nat} {seed : Int} {t : List (List Ent)} {key : ByteArray} {p : Addr} (h : linkLoc tb seed t key = some p) (ht : TabR G L tb t) :
    ∃ c j e v, t[slot seed key t.length]? = some c ∧ D.idx c key = some j ∧ c[j]? = some (key, e, v) ∧ p = locOf tb (slot seed key t.length) c j ∧ D.inTab seed t key = some (e, v) ∧
      ∃ bb off cells nx, p = ⟨bb, off, none⟩ ∧ Reads G L bb cells ∧ cells[off]? = some (.pointer (some ⟨e, 0, none⟩)) ∧ Reads G L e #[.string key, v, .pointer nx] := by
  unfold linkLoc at h
  split at h
  · rename_i c hc
    cases hj : idxOf c key with
    | none => rw [hj] at h; cases h
    | some j =>
      rw [hj] at h
      obtain ⟨e, v, he⟩ := idxOf_get hj
      rcases ht with rfl | ⟨htr, hcr⟩
      · simp at hc
      · have hr := hcr c (List.mem_of_getElem? hc)
        have hjl := (List.getElem?_eq_some_iff.1 he).1
        obtain ⟨bb, off, cells, e1, e2, e3⟩ := loc_read hr htr hc (by omega : j ≤ c.length)
        have hd := chainR_drop j hr
        have hget : c[j] = (key, e, v) := (List.getElem?_eq_some_iff.1 he).2
        rw [List.drop_eq_getElem_cons hjl, hget] at hd e3
        have hp : p = locOf tb (slot seed key t.length) c j := (Option.some.inj h).symm
        refine ⟨c, j, e, v, hc, hj, he, hp, ?_, bb, off, cells, _, hp.trans e1, e2, e3, hd.1⟩
        unfold D.inTab
        rw [hc]
        simp only [D.idx_find]
        rw [show D.idx c key = some j from hj]
        simp [he]
  · cases h
theorem link_none {tb : Nat} {seed : Int} {t : List (List Ent)} {key : ByteArray} (h : linkLoc tb seed t key = none) : D.inTab seed t key = none := by
  unfold linkLoc at h
  unfold D.inTab
  split at h
  · rename_i c hc
    rw [hc]
    simp only [D.idx_find]
    cases hj : D.idx c key with
    | none => rfl
    | some j => rw [show idxOf c key = some j from hj] at h; cases h
  · rename_i hc; rw [hc]
end Go.PS
