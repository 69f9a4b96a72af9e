/-
  Maps whose keys are texts and whose values hold nothing (sets of texts): made, filled, gone through, cleared.
  Conditions: each rule's own.
-/
import Derived.Test.YtopkabhgkhjecaaGreatLazy
import Derived.MapKept
namespace Go.PS
open Go

def entriesOk (keys : List ByteArray) (es : Array MapEntry) (clock : Nat) : Prop :=
  es.toList.map (·.key) = keys.map Value.string ∧ (∀ e ∈ es.toList, e.val = .agg #[]) ∧ (es.toList.map (·.born)).Nodup ∧ ∀ e ∈ es.toList, e.born < clock
/-- A set of texts. -/
def SetAt (m : Nat) (keys : List ByteArray) : HP := fun h => ∃ es clock, entriesOk keys es clock ∧ Blk m (.map es clock) h
theorem sat_set {G w : World} {L : List HP} {m : Nat} {keys : List ByteArray} (H : Sat G w (SetAt m keys :: L)) : ∃ es clock, entriesOk keys es clock ∧ Sat G w (Blk m (.map es clock) :: L) := by
  unfold SetAt at H
  obtain ⟨es, H⟩ := H.ex
  obtain ⟨clock, H⟩ := H.ex
  obtain ⟨h1, H⟩ := H.pure
  exact ⟨es, clock, h1, H⟩
theorem sat_mkSet {G w : World} {L : List HP} {m : Nat} {keys : List ByteArray} {es : Array MapEntry} {clock : Nat} (h : entriesOk keys es clock) (H : Sat G w (Blk m (.map es clock) :: L)) : Sat G w (SetAt m keys :: L) :=
  H.weak fun _ hk => ⟨es, clock, h, hk⟩

class FindSet (m : Nat) (L : List HP) (keys : outParam (List ByteArray)) (L' : outParam (List HP)) : Prop where
  perm : L.Perm (SetAt m keys :: L')
instance findSetTail {m : Nat} {keys : List ByteArray} {A : HP} {L L' : List HP} [h : FindSet m L keys L'] : FindSet m (A :: L) keys (A :: L') := ⟨(h.perm.cons A).trans (.swap _ A L')⟩
instance findSetHead {m : Nat} {keys : List ByteArray} {L : List HP} : FindSet m (SetAt m keys :: L) keys L := ⟨.refl _⟩

section
variable {S : Setup} {ρ : Env} {L L' : List HP} {ty : TypeId} {ops : Array Oper} {pos : String} {after : Array Edge} {N : Env → List HP → Prop}

theorem k_makeSet {t d : Nat} (hd : Nat.blt d S.n = true) (hn : ∀ m, N ((d, .map (some m)) :: ρ) (SetAt m [] :: L)) : OpK S ops ⟨some d, .makeMap t none, ty, pos, after, none⟩ ρ L N := by
  intro a w ha hw
  unfold OpA
  rw [if_pos wanted_none]
  have hr : (execOp a.eval ⟨some d, .makeMap t none, ty, pos, after, none⟩).run S.P w = .ok (.value (.map (some w.heap.size))) { w with heap := w.heap.push (.map #[] 0) } := by
    simp [execOp, Instr.makeMap]
  rw [hr]
  exact ⟨_, _, ha.put (blt_lt hd) _, sat_mkSet ⟨rfl, by simp, by simp, by simp⟩ (hw.new _ rfl rfl rfl rfl), hn _⟩

theorem bytesEq (a b : ByteArray) : (a == b) = decide (a = b) := by
  rw [Bool.eq_iff_iff, decide_eq_true_iff]; exact MapKept.bytes_beq a b
theorem findNow_some {key : ByteArray} {v : Value} : ∀ {es : List MapEntry} {i : Nat} {ks : List ByteArray}, es.map (·.key) = ks.map Value.string → key ∈ ks → ∃ j v, j < es.length ∧ (es[j]?).map (·.key) = some (.string key) ∧ Instr.findNow .string (.string key) es i = some (some (i + j, v))
  | [], _, ks, h, hk => by
    cases ks with
    | nil => cases hk
    | cons x r => simp at h
  | e :: es, i, ks, h, hk => by
    cases ks with
    | nil => cases hk
    | cons x r =>
      simp only [List.map_cons, List.cons.injEq] at h
      obtain ⟨h1, h2⟩ := h
      unfold Instr.findNow
      rw [h1]
      simp only [Instr.sameNow]
      by_cases hx : key = x
      · subst hx
        exact ⟨0, e.val, by simp, by simp [h1], by rw [bytesEq]; simp⟩
      · have hk' : key ∈ r := (List.mem_cons.1 hk).resolve_left hx
        obtain ⟨j, v', h3, h4, h5⟩ := findNow_some (v := v) (i := i + 1) h2 hk'
        refine ⟨j + 1, v', by simp; omega, by simpa using h4, ?_⟩
        have : (key == x) = false := by rw [bytesEq]; simpa using hx
        rw [this]
        simp only [h5]
        congr 3; omega
theorem findNow_none {key : ByteArray} : ∀ {es : List MapEntry} {i : Nat} {ks : List ByteArray}, es.map (·.key) = ks.map Value.string → key ∉ ks → Instr.findNow .string (.string key) es i = some none
  | [], _, _, _, _ => rfl
  | e :: es, i, ks, h, hk => by
    cases ks with
    | nil => simp at h
    | cons x r =>
      simp only [List.map_cons, List.cons.injEq] at h
      obtain ⟨h1, h2⟩ := h
      unfold Instr.findNow
      rw [h1]
      simp only [Instr.sameNow]
      have hx : key ≠ x := fun e => hk (by rw [e]; simp)
      have : (key == x) = false := by rw [bytesEq]; simpa using hx
      rw [this]
      exact findNow_none h2 (fun h => hk (.tail _ h))

def setT (P : Program) (t : TypeId) : Bool := match P.underlying t with
  | some (.map k _) => (match P.underlying k with | some .string => true | _ => false)
  | _ => false
theorem setT_eq {P : Program} {t : TypeId} (h : setT P t = true) : ∃ k e, P.underlying t = some (.map k e) ∧ P.underlying k = some .string := by
  unfold setT at h
  split at h
  · rename_i k e hk
    split at h
    · rename_i hs; exact ⟨k, e, hk, hs⟩
    · cases h
  · cases h

def withKey (key : ByteArray) (keys : List ByteArray) : List ByteArray := if keys.any (fun k => decide (k = key)) then keys else keys ++ [key]
theorem withKey_old {key : ByteArray} {keys : List ByteArray} (h : key ∈ keys) : withKey key keys = keys := if_pos (List.any_eq_true.2 ⟨key, h, by simp⟩)
theorem withKey_new {key : ByteArray} {keys : List ByteArray} (h : key ∉ keys) : withKey key keys = keys ++ [key] := if_neg fun e => by
  obtain ⟨k, hk, e⟩ := List.any_eq_true.1 e
  exact h (by rwa [← of_decide_eq_true e])
theorem mem_withKey {key k : ByteArray} {keys : List ByteArray} : k ∈ withKey key keys ↔ k = key ∨ k ∈ keys := by
  by_cases h : key ∈ keys
  · rw [withKey_old h]
    exact ⟨.inr, fun e => e.elim (fun e => e ▸ h) id⟩
  · rw [withKey_new h]; simp [or_comm]
/-- A text is laid into a set. -/
theorem k_touch {t m : Nat} {x y z : Operand} {key : ByteArray} {keys : List ByteArray} (hx : ev ρ x = some (.map (some m))) (hy : ev ρ y = some (.string key)) (hz : ev ρ z = some (.agg #[])) [hf : FindSet m L keys L'] (ht : setT S.P t = true)
    (hn : N ρ (SetAt m (withKey key keys) :: L')) : OpK S ops ⟨none, .mapUpdate t x y z, ty, pos, after, none⟩ ρ L N := by
  intro a w ha hw
  unfold OpA
  rw [if_pos wanted_none]
  obtain ⟨k, e, hu, hk⟩ := setT_eq ht
  obtain ⟨es, clock, ⟨h1, h2, h3, h4⟩, hw1⟩ := sat_set (hw.perm hf.perm)
  have hb := hw1.blk
  have hget : (getObj m).run S.P w = .ok (.map es clock) w := by simp [getObj, Sem.run, hb]
  have hset : ∀ o, (setObj m o).run S.P w = .ok () (w.putObj m o) := fun o => by simp [setObj, Sem.run, hb, World.putObj]
  have hck : (Instr.checkKey false 10000 k (.string key)).run S.P w = .ok () w := by
    unfold Instr.checkKey
    simp [run_underlying k hk]
  by_cases hm : key ∈ keys
  · obtain ⟨j, v, hj, hjk, hfn⟩ := findNow_some (v := .bool false) (i := 0) h1 hm
    rw [Nat.zero_add] at hfn
    have hkey : ((es[j]?).map (·.key)).getD (.string key) = .string key := by
      have : (es[j]?).map (·.key) = some (.string key) := by simpa using hjk
      rw [this]; rfl
    have hsame : Instr.sameBits 10000 (.string key) (.string key) = true := by
      unfold Instr.sameBits
      rw [bytesEq]; simp
    have hr : (execOp a.eval ⟨none, .mapUpdate t x y z, ty, pos, after, none⟩).run S.P w = .ok .skip (w.putObj m (.map (es.modify j fun e => { e with key := .string key, val := .agg #[] }) clock)) := by
      simp [execOp, ha.ev hx, ha.ev hy, ha.ev hz, Instr.mapUpdate, run_underlying t hu, run_underlying k hk, hget, hck, Instr.findKey, hfn, hkey, Instr.keyThatStays, hsame, hset]
    rw [hr]
    rw [withKey_old hm] at hn
    refine ⟨ρ, _, ha.putNone _, sat_mkSet (es := es.modify j fun e => { e with key := .string key, val := .agg #[] }) (clock := clock) ⟨?_, ?_, ?_, ?_⟩ (sat_putObj hw1), hn⟩
    · rw [Array.toList_modify, ← h1]
      refine List.ext_getElem? fun q => ?_
      simp only [List.getElem?_map, List.getElem?_modify]
      by_cases hq : j = q
      · subst hq
        cases he : es.toList[j]? with
        | none => rfl
        | some e =>
          have hjk' : e.key = .string key := by rw [he] at hjk; simpa using hjk
          simp [hjk']
      · cases he : es.toList[q]? with
        | none => rfl
        | some e => simp [hq]
    · intro e he
      rw [Array.toList_modify] at he
      obtain ⟨q, hq⟩ := List.mem_iff_getElem?.1 he
      rw [List.getElem?_modify] at hq
      cases hg : es.toList[q]? with
      | none => rw [hg] at hq; cases hq
      | some e' =>
        rw [hg] at hq
        simp only [Option.map_eq_map, Option.map_some, Option.some.injEq] at hq
        split at hq
        · rw [← hq]
        · rw [← hq]; exact h2 e' (List.mem_of_getElem? hg)
    · have : (es.toList.modify j fun e => { e with key := .string key, val := .agg #[] }).map (·.born) = es.toList.map (·.born) := by
        refine List.ext_getElem? fun q => ?_
        simp only [List.getElem?_map, List.getElem?_modify]
        cases es.toList[q]? with
        | none => rfl
        | some e => by_cases hq : j = q <;> simp [hq]
      rw [Array.toList_modify, this]; exact h3
    · intro e he
      rw [Array.toList_modify] at he
      obtain ⟨q, hq⟩ := List.mem_iff_getElem?.1 he
      rw [List.getElem?_modify] at hq
      cases hg : es.toList[q]? with
      | none => rw [hg] at hq; cases hq
      | some e' =>
        rw [hg] at hq
        simp only [Option.map_eq_map, Option.map_some, Option.some.injEq] at hq
        have := h4 e' (List.mem_of_getElem? hg)
        split at hq
        · rw [← hq]; exact this
        · rw [← hq]; exact this
  · have hfn := findNow_none (i := 0) h1 hm
    have hr : (execOp a.eval ⟨none, .mapUpdate t x y z, ty, pos, after, none⟩).run S.P w = .ok .skip (w.putObj m (.map (es.push { key := .string key, val := .agg #[], born := clock }) (clock + 1))) := by
      simp [execOp, ha.ev hx, ha.ev hy, ha.ev hz, Instr.mapUpdate, run_underlying t hu, run_underlying k hk, hget, hck, Instr.findKey, hfn, hset]
    rw [hr]
    rw [withKey_new hm] at hn
    refine ⟨ρ, _, ha.putNone _, sat_mkSet (es := es.push { key := .string key, val := .agg #[], born := clock }) (clock := clock + 1) ⟨?_, ?_, ?_, ?_⟩ (sat_putObj hw1), hn⟩
    · simp [h1]
    · intro e he
      simp only [Array.toList_push, List.mem_append, List.mem_singleton] at he
      rcases he with he | rfl
      · exact h2 e he
      · rfl
    · simp only [Array.toList_push, List.map_append, List.map_cons, List.map_nil]
      rw [List.nodup_append]
      refine ⟨h3, by simp, ?_⟩
      intro b hb c hc
      simp only [List.mem_singleton] at hc
      obtain ⟨e, he, rfl⟩ := List.mem_map.1 hb
      have := h4 e he
      omega
    · intro e he
      simp only [Array.toList_push, List.mem_append, List.mem_singleton] at he
      rcases he with he | rfl
      · have := h4 e he; omega
      · simp

theorem ev_lenSet {t m : Nat} {x : Operand} {keys : List ByteArray} (hx : ev ρ x = some (.map (some m))) [hf : FindSet m L keys L'] (ht : setT S.P t = true) :
    Ev S (.call { callee := .builtin .len, args := #[x], argTypes := #[t] }) ty ρ L (.int .i64 keys.length) := by
  intro a w _ _ _ _ ha hw
  obtain ⟨k, e, hu, hk⟩ := setT_eq ht
  obtain ⟨es, clock, ⟨h1, h2, h3, h4⟩, hw1⟩ := sat_set (hw.perm hf.perm)
  have hb := hw1.blk
  have hget : (getObj m).run S.P w = .ok (.map es clock) w := by simp [getObj, Sem.run, hb]
  have hlen : es.size = keys.length := by
    have := congrArg List.length h1
    simpa using this
  simp [execOp, resolve, ha.ev hx, invoke, builtin, Builtin.len_, run_underlying t hu, hget, goInt, hlen]
theorem k_clearSet {t m : Nat} {x : Operand} {keys : List ByteArray} (hx : ev ρ x = some (.map (some m))) [hf : FindSet m L keys L'] (ht : setT S.P t = true) (hn : N ρ (SetAt m [] :: L')) :
    OpK S ops ⟨none, .call { callee := .builtin .clear, args := #[x], argTypes := #[t] }, ty, pos, after, none⟩ ρ L N := by
  intro a w ha hw
  unfold OpA
  rw [if_pos wanted_none]
  obtain ⟨k, e, hu, hk⟩ := setT_eq ht
  obtain ⟨es, clock, ⟨h1, h2, h3, h4⟩, hw1⟩ := sat_set (hw.perm hf.perm)
  have hb := hw1.blk
  have hget : (getObj m).run S.P w = .ok (.map es clock) w := by simp [getObj, Sem.run, hb]
  have hset : ∀ o, (setObj m o).run S.P w = .ok () (w.putObj m o) := fun o => by simp [setObj, Sem.run, hb, World.putObj]
  have hr : (execOp a.eval ⟨none, .call { callee := .builtin .clear, args := #[x], argTypes := #[t] }, ty, pos, after, none⟩).run S.P w = .ok (.value (.tuple #[])) (w.putObj m (.map #[] clock)) := by
    simp [execOp, resolve, ha.ev hx, invoke, builtin, Builtin.clear_, run_underlying t hu, hget, hset]
  rw [hr]
  exact ⟨ρ, _, ha.putNone _, sat_mkSet (es := #[]) (clock := clock) ⟨rfl, by simp, by simp, by simp⟩ (sat_putObj hw1), hn⟩
end

/-! ### Going through a set -/
/-- A set, and one who goes through it and has told 'done'. -/
def IterAt (m r : Nat) (keys done : List ByteArray) : HP := fun h => ∃ (es : Array MapEntry) (clock : Nat) (seen : Array Nat) (dl : List MapEntry),
  (entriesOk keys es clock ∧ (∀ e ∈ dl, e ∈ es.toList) ∧ seen.toList = dl.map (·.born) ∧ dl.map (·.key) = done.map Value.string) ∧
    Star [Blk m (.map es clock), Blk r (.mapIter (some m) clock seen clock)] h
theorem sat_iter {G w : World} {L : List HP} {m r : Nat} {keys done : List ByteArray} (H : Sat G w (IterAt m r keys done :: L)) : ∃ (es : Array MapEntry) (clock : Nat) (seen : Array Nat) (dl : List MapEntry),
    (entriesOk keys es clock ∧ (∀ e ∈ dl, e ∈ es.toList) ∧ seen.toList = dl.map (·.born) ∧ dl.map (·.key) = done.map Value.string) ∧ Sat G w (Blk m (.map es clock) :: Blk r (.mapIter (some m) clock seen clock) :: L) := by
  unfold IterAt at H
  obtain ⟨es, H⟩ := H.ex
  obtain ⟨clock, H⟩ := H.ex
  obtain ⟨seen, H⟩ := H.ex
  obtain ⟨dl, H⟩ := H.ex
  obtain ⟨h1, H⟩ := H.pure
  exact ⟨es, clock, seen, dl, h1, H.ungroup⟩
theorem sat_mkIter {G w : World} {L : List HP} {m r : Nat} {keys done : List ByteArray} {es : Array MapEntry} {clock : Nat} {seen : Array Nat} {dl : List MapEntry}
    (h : entriesOk keys es clock ∧ (∀ e ∈ dl, e ∈ es.toList) ∧ seen.toList = dl.map (·.born) ∧ dl.map (·.key) = done.map Value.string) (H : Sat G w (Blk m (.map es clock) :: Blk r (.mapIter (some m) clock seen clock) :: L)) : Sat G w (IterAt m r keys done :: L) :=
  (Sat.group (L := [_, _]) H).weak fun _ hk => ⟨es, clock, seen, dl, h, hk⟩
theorem sat_iterEnd {G w : World} {L : List HP} {m r : Nat} {keys done : List ByteArray} (H : Sat G w (IterAt m r keys done :: L)) : Sat G w (SetAt m keys :: L) := by
  obtain ⟨es, clock, seen, dl, h, H⟩ := sat_iter H
  exact sat_mkSet h.1 H.swap.tail
class FindIter (r : Nat) (L : List HP) (m : outParam Nat) (keys done : outParam (List ByteArray)) (L' : outParam (List HP)) : Prop where
  perm : L.Perm (IterAt m r keys done :: L')
instance findIterTail {m r : Nat} {keys done : List ByteArray} {A : HP} {L L' : List HP} [h : FindIter r L m keys done L'] : FindIter r (A :: L) m keys done (A :: L') := ⟨(h.perm.cons A).trans (.swap _ A L')⟩
instance findIterHead {m r : Nat} {keys done : List ByteArray} {L : List HP} : FindIter r (IterAt m r keys done :: L) m keys done L := ⟨.refl _⟩

section
variable {S : Setup} {ρ : Env} {L L' : List HP} {ty : TypeId} {ops : Array Oper} {pos : String} {after : Array Edge} {N : Env → List HP → Prop}
theorem k_range {t m d : Nat} {x : Operand} {keys : List ByteArray} (hx : ev ρ x = some (.map (some m))) [hf : FindSet m L keys L'] (ht : setT S.P t = true) (hd : Nat.blt d S.n = true)
    (hn : ∀ r, N ((d, .pointer (some ⟨r, 0, none⟩)) :: ρ) (IterAt m r keys [] :: L')) : OpK S ops ⟨some d, .range t x, ty, pos, after, none⟩ ρ L N := by
  intro a w ha hw
  unfold OpA
  rw [if_pos wanted_none]
  obtain ⟨k, e, hu, hk⟩ := setT_eq ht
  obtain ⟨es, clock, h, hw1⟩ := sat_set (hw.perm hf.perm)
  have hb := hw1.blk
  have hget : (getObj m).run S.P w = .ok (.map es clock) w := by simp [getObj, Sem.run, hb]
  have hr : (execOp a.eval ⟨some d, .range t x, ty, pos, after, none⟩).run S.P w = .ok (.value (.pointer (some ⟨w.heap.size, 0, none⟩))) { w with heap := w.heap.push (.mapIter (some m) clock #[] clock) } := by
    simp [execOp, ha.ev hx, Instr.range, run_underlying t hu, hget]
  rw [hr]
  have hnew : Sat S.G { w with heap := w.heap.push (.mapIter (some m) clock #[] clock) } (Blk w.heap.size (.mapIter (some m) clock #[] clock) :: Blk m (.map es clock) :: L') := hw1.new _ rfl rfl rfl rfl
  exact ⟨_, _, ha.put (blt_lt hd) _, sat_mkIter (dl := []) ⟨h, by simp, rfl, rfl⟩ hnew.swap, hn _⟩

theorem entry_of_born {es : List MapEntry} {e e' : MapEntry} (hn : (es.map (·.born)).Nodup) (h : e ∈ es) (h' : e' ∈ es) (hb : e.born = e'.born) : e = e' := by
  induction es with
  | nil => cases h
  | cons x r ih =>
    simp only [List.map_cons, List.nodup_cons] at hn
    rcases List.mem_cons.1 h with h | h <;> rcases List.mem_cons.1 h' with h' | h'
    · rw [h, h']
    · exact absurd (List.mem_map.2 ⟨e', h', by rw [← hb, h]⟩) hn.1
    · exact absurd (List.mem_map.2 ⟨e, h, by rw [hb, h']⟩) hn.1
    · exact ih hn.2 h h'
theorem ev_entry {r m : Nat} {x : Operand} {key : ByteArray} {keys done : List ByteArray} (hx : ev ρ x = some (.pointer (some ⟨r, 0, none⟩))) [hf : FindIter r L m keys (done ++ [key]) L'] : Ev S (.entry x) ty ρ L (.tuple #[.string key, .agg #[]]) := by
  intro a w _ _ _ _ ha hw
  obtain ⟨es, clock, seen, dl, ⟨⟨h1, h2, h3, h4⟩, h5, h6, h7⟩, hw1⟩ := sat_iter (hw.perm hf.perm)
  have hb := hw1.blk
  have hb2 := hw1.tail.blk
  have hget : (getObj m).run S.P w = .ok (.map es clock) w := by simp [getObj, Sem.run, hb]
  have hget2 : (getObj r).run S.P w = .ok (.mapIter (some m) clock seen clock) w := by simp [getObj, Sem.run, hb2]
  have hne : dl ≠ [] := by intro e; rw [e] at h7; simp at h7
  obtain ⟨dl', e, rfl⟩ : ∃ dl' e, dl = dl' ++ [e] := ⟨dl.dropLast, dl.getLast hne, (List.dropLast_concat_getLast hne).symm⟩
  have hkey : e.key = .string key := by
    simp only [List.map_append, List.map_cons, List.map_nil] at h7
    have := List.append_inj_right' h7 (by simp)
    simpa using this
  have he := h5 e (by simp)
  have hback : seen.back? = some e.born := by
    rw [Array.back?_eq_getElem?, ← Array.getElem?_toList, h6]
    have : seen.size = dl'.length + 1 := by rw [← Array.length_toList, h6]; simp
    rw [this]; simp
  have hfind : es.find? (fun x => x.born == e.born) = some e := by
    rw [← Array.find?_toList]
    cases hq : es.toList.find? (fun x => x.born == e.born) with
    | none => have := List.find?_eq_none.1 hq e he; simp at this
    | some e' =>
      have h8 := List.find?_some hq
      have h9 := List.mem_of_find?_eq_some hq
      rw [entry_of_born h3 h9 he (by simpa using h8)]
  have hval := h2 e he
  simp [execOp, ha.ev hx, Instr.entry, hget, hget2, hback, hfind, hkey, hval]

theorem k_next {r m d : Nat} {x : Operand} {keys done : List ByteArray} (hx : ev ρ x = some (.pointer (some ⟨r, 0, none⟩))) [hf : FindIter r L m keys done L'] (hk : keys.Nodup) (hd : Nat.blt d S.n = true)
    (hmore : ∀ key, key ∈ keys → key ∉ done → N ((d, .tuple #[.bool true, .string key, .agg #[]]) :: ρ) (IterAt m r keys (done ++ [key]) :: L'))
    (hover : (∀ key ∈ keys, key ∈ done) → N ((d, .tuple #[.bool false]) :: ρ) (IterAt m r keys done :: L')) : OpK S ops ⟨some d, .next x false, ty, pos, after, none⟩ ρ L N := by
  intro a w ha hw
  unfold OpA
  rw [if_pos wanted_none]
  obtain ⟨es, clock, seen, dl, ⟨⟨h1, h2, h3, h4⟩, h5, h6, h7⟩, hw1⟩ := sat_iter (hw.perm hf.perm)
  have hb := hw1.blk
  have hb2 := hw1.tail.blk
  have hget : (getObj m).run S.P w = .ok (.map es clock) w := by simp [getObj, Sem.run, hb]
  have hget2 : (getObj r).run S.P w = .ok (.mapIter (some m) clock seen clock) w := by simp [getObj, Sem.run, hb2]
  have hno : (!seen.isEmpty && !es.isEmpty && es.all (fun e => decide (e.born ≥ clock))) = false := by
    cases hes : es.toList with
    | nil =>
      have : es.isEmpty = true := by simpa [Array.isEmpty_iff] using (show es = #[] from Array.ext' (by simpa using hes))
      simp [this]
    | cons e l =>
      have h8 := h4 e (by rw [hes]; simp)
      have : es.all (fun e => decide (e.born ≥ clock)) = false := by
        rw [← Array.all_toList, hes]
        rw [List.all_cons, show decide (e.born ≥ clock) = false by simp; omega]; rfl
      simp [this]
  generalize hleft : es.filter (fun e => !seen.contains e.born) = left
  have hleftm : ∀ e ∈ left.toList, e ∈ es.toList ∧ e.born ∉ seen.toList := by
    intro e he
    rw [← hleft, Array.toList_filter, List.mem_filter] at he
    refine ⟨he.1, fun h => ?_⟩
    have h8 := he.2
    have h9 : seen.contains e.born = true := by rw [Array.contains_iff_mem]; simpa using h
    rw [h9] at h8; cases h8
  have hold : left.filter (fun e => decide (e.born < clock)) = left := by
    apply Array.ext'
    rw [Array.toList_filter, List.filter_eq_self]
    intro e he
    simpa using h4 e (hleftm e he).1
  have hnew : left.filter (fun e => decide (e.born ≥ clock)) = #[] := by
    apply Array.ext'
    rw [Array.toList_filter, List.filter_eq_nil_iff]
    intro e he
    have := h4 e (hleftm e he).1
    simp; omega
  generalize hcand : ((if left.isEmpty = true then #[none] else #[]) ++ (left ++ #[]).map some : Array (Option MapEntry)) = cand
  have hcp : 0 < cand.size := by
    rw [← hcand]
    cases hl : left.isEmpty with
    | true => simp; omega
    | false =>
      have : left.size ≠ 0 := by intro e; have := Array.eq_empty_of_size_eq_zero e; rw [this] at hl; cases hl
      simp; omega
  have hch : ∃ k w', (choose (.mapNext cand.size)).run S.P w = .ok k w' ∧ k < cand.size ∧ w'.heap = w.heap ∧ w'.os = w.os ∧ w'.tape = w.tape ∧ w'.output = w.output ∧ w.drawn ≤ w'.drawn := by
    rw [Go.run_choose]
    split
    · exact ⟨0, w, rfl, hcp, rfl, rfl, rfl, rfl, Nat.le_refl _⟩
    · exact ⟨_, _, rfl, Nat.mod_lt _ hcp, rfl, rfl, rfl, rfl, Nat.le_succ _⟩
  obtain ⟨q, w', hch, hq, e1, e2, e3, e4, e5⟩ := hch
  obtain ⟨c, hc⟩ : ∃ c, cand[q]? = some c := ⟨_, Array.getElem?_eq_getElem hq⟩
  have hcm : c ∈ cand := Array.mem_of_getElem? hc
  have hw2 : Sat S.G w' (Blk m (.map es clock) :: Blk r (.mapIter (some m) clock seen clock) :: L') := hw1.same e1 e2 e3 e4 e5
  have hb2' := hw2.tail.blk
  have hset : ∀ o, (setObj r o).run S.P w' = .ok () (w'.putObj r o) := fun o => by simp [setObj, Sem.run, hb2', World.putObj]
  cases c with
  | none =>
    have hr : (execOp a.eval ⟨some d, .next x false, ty, pos, after, none⟩).run S.P w = .ok (.value (.tuple #[.bool false])) w' := by
      simp only [execOp, ha.ev hx, Instr.next, Sem.run_bind, hget2, Result.andThen_ok, hget, hno, Bool.false_eq_true, if_false, hleft, hold, hnew, hcand, hch, hc, Sem.run_pure]
    rw [hr]
    refine ⟨_, _, ha.put (blt_lt hd) _, sat_mkIter ⟨⟨h1, h2, h3, h4⟩, h5, h6, h7⟩ hw2, hover ?_⟩
    have hle : left.isEmpty = true := by
      rw [← hcand] at hcm
      cases hl : left.isEmpty with
      | true => rfl
      | false => rw [hl] at hcm; simp at hcm
    intro key hkey
    have : Value.string key ∈ es.toList.map (·.key) := by rw [h1]; exact List.mem_map.2 ⟨key, hkey, rfl⟩
    obtain ⟨e, he, hek⟩ := List.mem_map.1 this
    have hseen : e.born ∈ seen.toList := by
      apply Classical.byContradiction
      intro hn
      have : e ∈ left.toList := by
        rw [← hleft, Array.toList_filter, List.mem_filter]
        refine ⟨he, ?_⟩
        have : seen.contains e.born = false := by
          cases hcc : seen.contains e.born with
          | false => rfl
          | true => rw [Array.contains_iff_mem] at hcc; exact absurd (by simpa using hcc) hn
        rw [this]; rfl
      have hem : left = #[] := by simpa [Array.isEmpty_iff] using hle
      rw [hem] at this; cases this
    rw [h6] at hseen
    obtain ⟨e', he', hb'⟩ := List.mem_map.1 hseen
    have := entry_of_born h3 (h5 e' he') he hb'
    subst this
    have : Value.string key ∈ done.map Value.string := by rw [← h7, ← hek]; exact List.mem_map.2 ⟨e', he', rfl⟩
    obtain ⟨k', hk', e⟩ := List.mem_map.1 this
    injection e with e
    rwa [← e]
  | some e =>
    have hel : e ∈ left.toList := by
      rw [← hcand] at hcm
      rcases Array.mem_append.1 hcm with h | h
      · split at h
        · simp at h
        · simp at h
      · simpa using h
    obtain ⟨he1, he2⟩ := hleftm e hel
    have hv := h2 e he1
    have : e.key ∈ keys.map Value.string := by rw [← h1]; exact List.mem_map.2 ⟨e, he1, rfl⟩
    obtain ⟨key, hkey, hek⟩ := List.mem_map.1 this
    have hnd : key ∉ done := by
      intro h
      have : Value.string key ∈ dl.map (·.key) := by rw [h7]; exact List.mem_map.2 ⟨key, h, rfl⟩
      obtain ⟨e', he', hk'⟩ := List.mem_map.1 this
      have hke : (es.toList.map (·.key)).Nodup := by
        rw [h1]
        exact List.Pairwise.map _ (fun a b hab h => hab (by injection h)) hk
      have hee : e = e' := by
        have hsub : ∀ {l : List MapEntry}, (l.map (·.key)).Nodup → e ∈ l → e' ∈ l → e.key = e'.key → e = e' := by
          intro l
          induction l with
          | nil => intro _ h; cases h
          | cons x r ih =>
            intro hn h h' hk
            simp only [List.map_cons, List.nodup_cons] at hn
            rcases List.mem_cons.1 h with h | h <;> rcases List.mem_cons.1 h' with h' | h'
            · rw [h, h']
            · exact absurd (List.mem_map.2 ⟨e', h', by rw [← hk, h]⟩) hn.1
            · exact absurd (List.mem_map.2 ⟨e, h, by rw [hk, h']⟩) hn.1
            · exact ih hn.2 h h' hk
        exact hsub hke he1 (h5 e' he') (by rw [← hek, hk'])
      subst hee
      exact he2 (by rw [h6]; exact List.mem_map.2 ⟨e, he', rfl⟩)
    have hr : (execOp a.eval ⟨some d, .next x false, ty, pos, after, none⟩).run S.P w = .ok (.value (.tuple #[.bool true, .string key, .agg #[]])) (w'.putObj r (.mapIter (some m) clock (seen.push e.born) clock)) := by
      simp only [execOp, ha.ev hx, Instr.next, Sem.run_bind, hget2, Result.andThen_ok, hget, hno, Bool.false_eq_true, if_false, hleft, hold, hnew, hcand, hch, hc, Sem.run_pure, hset, hv, hek]
    rw [hr]
    refine ⟨_, _, ha.put (blt_lt hd) _, sat_mkIter (es := es) (clock := clock) (seen := seen.push e.born) (dl := dl ++ [e]) ⟨⟨h1, h2, h3, h4⟩, ?_, ?_, ?_⟩ (sat_putObj hw2.swap).swap, hmore key hkey hnd⟩
    · intro x hx
      rcases List.mem_append.1 hx with hx | hx
      · exact h5 x hx
      · rw [List.mem_singleton.1 hx]; exact he1
    · rw [Array.toList_push, h6]; simp
    · simp [h7, ← hek]
end
end Go.PS
