/-
  Structs within blocks: loaded and stored as a whole.
  Conditions: each rule's own.
-/
import Derived.Test.YtopkabhgkhjecaaGreatIface
namespace Go.PS
open Go

class DropL (l : List Value) (i : Nat) (l' : outParam (List Value)) : Prop where
  eq : l.drop i = l'
instance dropL0 {l : List Value} : DropL l 0 l := ⟨rfl⟩
instance dropLS {x : Value} {l l' : List Value} {i : Nat} [h : DropL l i l'] : DropL (x :: l) (i + 1) l' := ⟨by rw [List.drop_succ_cons, h.eq]⟩
class TakeL (l : List Value) (i : Nat) (l' : outParam (List Value)) : Prop where
  eq : l.take i = l' ∧ i ≤ l.length
instance takeL0 {l : List Value} : TakeL l 0 [] := ⟨by simp⟩
instance takeLS {x : Value} {l l' : List Value} {i : Nat} [h : TakeL l i l'] : TakeL (x :: l) (i + 1) (x :: l') := ⟨by rw [List.take_succ_cons, h.eq.1]; exact ⟨rfl, by simpa using h.eq.2⟩⟩
/-- Some cells from a place on are changed. -/
class PutL (l : List Value) (i : Nat) (d : List Value) (l' : outParam (List Value)) : Prop where
  eq : l.take i ++ d ++ l.drop (i + d.length) = l' ∧ i + d.length ≤ l.length
instance putL0 {l : List Value} : PutL l 0 [] l := ⟨by simp⟩
instance putLD {x v : Value} {l l' d : List Value} [h : PutL l 0 d l'] : PutL (x :: l) 0 (v :: d) (v :: l') := ⟨by
  have := h.eq
  simp only [List.take_zero, List.nil_append, Nat.zero_add, List.length_cons, List.cons_append, List.drop_succ_cons] at this ⊢
  rw [this.1]; exact ⟨rfl, by omega⟩⟩
instance putLS {x : Value} {l l' d : List Value} {i : Nat} [h : PutL l i d l'] : PutL (x :: l) (i + 1) d (x :: l') := ⟨by
  have := h.eq
  rw [show i + 1 + d.length = (i + d.length) + 1 by omega]
  simp only [List.take_succ_cons, List.cons_append, List.drop_succ_cons, List.length_cons]
  rw [this.1]; exact ⟨rfl, by omega⟩⟩

section
variable {S : Setup} {ρ : Env} {L L' : List HP} {ty : TypeId} {ops : Array Oper} {pos : String} {after : Array Edge} {N : Env → List HP → Prop}

theorem RunOps.perm {os : List Oper} {ks : List Item} (p : L.Perm L') (h : RunOps S ops os ks ρ L') : RunOps S ops os ks ρ L := RunOps.mem (fun _ hw => hw.perm p) h
theorem RunOps.exm {os : List Oper} {ks : List Item} {κ : Type} {p : κ → Prop} {M : κ → List HP} (hs : ∀ w, Sat S.G w L → ∃ x, p x ∧ Sat S.G w (M x)) (h : ∀ x, p x → RunOps S ops os ks ρ (M x)) : RunOps S ops os ks ρ L := by
  cases os with
  | nil => exact Run.exm hs h
  | cons o os => exact OpK.exm hs h
theorem ev_loadAllS {t b : Nat} {c : Array Value} {x : Operand} (n : Nat) (hx : ev ρ x = some (.pointer (some ⟨b, 0, none⟩))) [hr : Reads S.G L b c] (hc : c.size = n) (ht : aggT S.P t n = true) :
    Ev S (.load t x) ty ρ L (.agg c) := ev_loadAll hx (by rw [hc]; exact ht)
theorem ev_loadPart {t b off : Nat} {l l1 l2 : List Value} {x : Operand} (n : Nat) (hx : ev ρ x = some (.pointer (some ⟨b, off, none⟩))) [hr : Reads S.G L b l.toArray] [h1 : DropL l off l1] [h2 : TakeL l1 n l2] (ht : aggT S.P t n = true) :
    Ev S (.load t x) ty ρ L (.agg l2.toArray) := by
  have hle := h2.eq.2
  have hd := h1.eq
  by_cases hn : n = 0
  · subst hn
    have e : l2 = [] := by rw [← h2.eq.1]; simp
    subst e
    intro a w _ _ _ _ ha hw
    obtain ⟨T, fz, hb⟩ := hr.read w hw
    simp only [execOp, ha.ev hx, Instr.loadAt, Instr.sureAddr, Sem.run_bind, Sem.run_pure, Result.andThen_ok, loadVar, run_isAgg_agg ht, run_sizeOf (sizeT_of_agg ht), if_true]
    rfl
  · have hlen : off + n ≤ l.length := by
      rw [← hd, List.length_drop] at hle; omega
    have := ev_loadAgg (S := S) (L := L) (ty := ty) (c := l.toArray) (off := off) n hx (by simpa using hlen) ht
    have e : l.toArray.extract off (off + n) = l2.toArray := by
      rw [← h2.eq.1, ← hd]
      simp [List.extract_eq_take_drop]
    rwa [e] at this
theorem k_storeAllS {t b : Nat} {c : Array Value} {d : Array Value} {T : TypeId} {x y : Operand} (n : Nat) (hx : ev ρ x = some (.pointer (some ⟨b, 0, none⟩))) (hy : ev ρ y = some (.agg d))
    [hb : Has b (.cells c T (0, 0)) L] [hu : Upd b (.cells d T (0, 0)) L L'] (hc : c.size = n) (hd : d.size = n) (h1 : d.toList.all (·.oneCell') = true) (hs : sizeT S.P t n = true) (hn : N ρ L') :
    OpK S ops ⟨none, .store t x y, ty, pos, after, none⟩ ρ L N := by
  have e : (c.toList.take 0 ++ d.toList ++ c.toList.drop (0 + d.size)).toArray = d := by
    rw [List.drop_eq_nil_of_le (by simp; omega)]; simp
  haveI : Upd b (.cells (c.toList.take 0 ++ d.toList ++ c.toList.drop (0 + d.size)).toArray T (0, 0)) L L' := by rw [e]; exact hu
  exact k_storeAgg hx hy (by omega) (fun u hu => List.all_eq_true.1 h1 u hu) (by rw [hd]; exact hs) hn
theorem k_storePart {t b off : Nat} {l d l' : List Value} {T : TypeId} {x y : Operand} (n : Nat) (hx : ev ρ x = some (.pointer (some ⟨b, off, none⟩))) (hy : ev ρ y = some (.agg d.toArray))
    [hb : Has b (.cells l.toArray T (0, 0)) L] [hp : PutL l off d l'] [hu : Upd b (.cells l'.toArray T (0, 0)) L L'] (hd : d.length = n) (h1 : d.all (·.oneCell') = true) (hs : sizeT S.P t n = true) (hn : N ρ L') :
    OpK S ops ⟨none, .store t x y, ty, pos, after, none⟩ ρ L N := by
  have e : (l.toArray.toList.take off ++ d.toArray.toList ++ l.toArray.toList.drop (off + d.toArray.size)).toArray = l'.toArray := by
    rw [← hp.eq.1]; simp
  haveI : Upd b (.cells (l.toArray.toList.take off ++ d.toArray.toList ++ l.toArray.toList.drop (off + d.toArray.size)).toArray T (0, 0)) L L' := by rw [e]; exact hu
  exact k_storeAgg hx hy (by simpa using hp.eq.2) (fun u hu => List.all_eq_true.1 h1 u (by simpa using hu)) (by simpa [hd] using hs) hn

/-! ### Structs put together, of parts of any size -/
/-- The cells of a value. -/
class CellsV (v : Value) (d : outParam (List Value)) : Prop where
  eq : v.cells = d.toArray
instance cellsAgg {l : List Value} : CellsV (.agg l.toArray) l := ⟨rfl⟩
instance cellsInt {k : IntKind} {n : Int} : CellsV (.int k n) [.int k n] := ⟨rfl⟩
instance cellsString {x : ByteArray} : CellsV (.string x) [.string x] := ⟨rfl⟩
instance cellsBool {x : Bool} : CellsV (.bool x) [.bool x] := ⟨rfl⟩
instance cellsPtr {x : Option Addr} : CellsV (.pointer x) [.pointer x] := ⟨rfl⟩
instance cellsMap {x : Option Nat} : CellsV (.map x) [.map x] := ⟨rfl⟩
instance cellsSlice {x : Option Addr} {n m : Nat} : CellsV (.slice x n m) [.slice x n m] := ⟨rfl⟩
instance cellsIface {t : Nat} {x : Value} : CellsV (.iface t x) [.iface t x] := ⟨rfl⟩
instance cellsNilI : CellsV .nilIface [.nilIface] := ⟨rfl⟩
instance cellsNilF : CellsV .nilFunc [.nilFunc] := ⟨rfl⟩
instance cellsFunc {f : Fn} {a b : Array Value} : CellsV (.func f a b) [.func f a b] := ⟨rfl⟩
instance cellsFloat {k : FloatKind} {x : _} : CellsV (.float k x) [.float k x] := ⟨rfl⟩
class GetP (ps : List (Nat × Nat)) (i : Nat) (o sz : outParam Nat) : Prop where
  eq : ps[i]? = some (o, sz)
instance getP0 {o sz : Nat} {l : List (Nat × Nat)} : GetP ((o, sz) :: l) 0 o sz := ⟨rfl⟩
instance getPS {x : Nat × Nat} {l : List (Nat × Nat)} {i o sz : Nat} [h : GetP l i o sz] : GetP (x :: l) (i + 1) o sz := ⟨by rw [List.getElem?_cons_succ, h.eq]⟩
class LenL (d : List Value) (n : Nat) : Prop where
  eq : d.length = n
instance lenL0 : LenL [] 0 := ⟨rfl⟩
instance lenLS {x : Value} {l : List Value} {n : Nat} [h : LenL l n] : LenL (x :: l) (n + 1) := ⟨by rw [List.length_cons, h.eq]⟩
class FillP (ps : List (Nat × Nat)) (c : List Value) (is : List Nat) (vs : List Value) (c' : outParam (List Value)) : Prop where
  eq : Instr.fill (fun i => ps[i]?) c.toArray (is.zip vs) = some c'.toArray
instance fillP0 {ps : List (Nat × Nat)} {c : List Value} : FillP ps c [] [] c := ⟨rfl⟩
theorem foldl_put : ∀ (d l : List Value) (o : Nat), o + d.length ≤ l.length → d.toArray.zipIdx.foldl (fun (cs : Array Value) (x : Value × Nat) => cs.setIfInBounds (o + x.2) x.1) l.toArray = (l.take o ++ d ++ l.drop (o + d.length)).toArray := by
  have key : ∀ (d : List Value) (k : Nat) (l : List Value) (o : Nat), o + k + d.length ≤ l.length → (d.zipIdx k).foldl (fun (cs : Array Value) (x : Value × Nat) => cs.setIfInBounds (o + x.2) x.1) l.toArray = (l.take (o + k) ++ d ++ l.drop (o + k + d.length)).toArray := by
    intro d
    induction d with
    | nil => intro k l o h; simp
    | cons x d ih =>
      intro k l o h
      simp only [List.zipIdx_cons, List.foldl_cons, List.length_cons] at h ⊢
      have e : l.toArray.setIfInBounds (o + k) x = (l.set (o + k) x).toArray := by simp
      rw [e, ih (k + 1) _ o (by simp; omega)]
      congr 1
      rw [List.take_set, List.drop_set, if_pos (by omega), show o + (k + 1) = o + k + 1 by omega]
      have hlt : o + k < l.length := by omega
      rw [List.take_succ_eq_append_getElem hlt, List.set_append_right _ _ (by simp; omega)]
      simp only [List.length_take, Nat.min_eq_left (show o + k ≤ l.length by omega), Nat.sub_self, List.set_cons_zero, List.append_assoc, List.cons_append, List.nil_append]
      congr 4
      omega
  intro d l o h
  have := key d 0 l o (by omega)
  rw [← Array.foldl_toList]
  simpa using this
instance fillPS {ps : List (Nat × Nat)} {c d c1 c' : List Value} {i o sz : Nat} {v : Value} {is : List Nat} {vs : List Value} [h1 : GetP ps i o sz] [h2 : CellsV v d] [h3 : LenL d sz] [h4 : PutL c o d c1] [h5 : FillP ps c1 is vs c'] : FillP ps c (i :: is) (v :: vs) c' := ⟨by
  rw [List.zip_cons_cons]
  unfold Instr.fill
  rw [h1.eq]
  simp only [h2.eq]
  have e3 := h3.eq
  have e4 := h4.eq
  rw [if_neg (by simp; omega), foldl_put d c o e4.2, e4.1]
  exact h5.eq⟩
theorem ev_buildP {t : TypeId} {parts : List (Nat × Operand)} {vs z c' : List Value} (ps : List (Nat × Nat)) (is : List Nat) (hz : zeroO S.P t = some z.toArray) (hp : placesT S.P t = some ps) (hi : parts.map (·.1) = is) (hv : evs ρ (parts.map (·.2)) = some vs) [hf : FillP ps z is vs c'] : Ev S (.build t parts.toArray) ty ρ L (.agg c'.toArray) := by
  obtain ⟨zv, h1, h2⟩ := zeroO_parts hz
  subst hi
  exact ev_build c'.toArray hv h1 hp (by rw [h2]; exact hf.eq)

/-! ### Rows put together -/
theorem fill_congr {p q : Nat → Option (Nat × Nat)} : ∀ {l : List (Nat × Value)} {c : Array Value}, (∀ x ∈ l, p x.1 = q x.1) → Instr.fill p c l = Instr.fill q c l
  | [], _, _ => rfl
  | (i, v) :: l, c, h => by
    unfold Instr.fill
    rw [show p i = q i from h (i, v) (.head _)]
    split
    · rfl
    · split
      · rfl
      · exact fill_congr fun x hx => h x (.tail _ hx)
theorem run_buildSliceN {P : Program} {w : World} {t e n : Nat} {parts : List (Nat × Value)} {z : Array Value} {B : Nat} {cs : Array Value} (hT : ElemT P t e z B) (h0 : z.size ≠ 0) (hn : n * z.size ≠ 0) (h1 : n * z.size ≤ 16777216)
    (hf : Instr.fill (fun i => some (i * z.size, z.size)) (Builtin.zeroCells z n) parts = some cs) :
    (Instr.buildSlice t n parts.toArray).run P w = .ok (.slice (some ⟨w.heap.size, 0, none⟩) n n) { w with heap := w.heap.push (.cells cs e) } := by
  obtain ⟨i, vz, hi, hB, hS, hz, hcells⟩ := hT.info
  have hzv : zeroT P e vz := by unfold zeroT; rw [hi]; exact hz
  unfold Instr.buildSlice
  have hlim : ¬ (n * z.size > 2 ^ 24) := by
    have : (2 : Nat) ^ 24 = 16777216 := by decide
    omega
  simp only [Sem.run_bind, run_underlying t (sliceT_eq hT.sl), Result.andThen_ok, run_sizeOf hT.size]
  rw [if_neg hlim]
  simp only [if_neg hn, Sem.run_bind, run_zeroValue hzv, hcells, Result.andThen_ok, Sem.run_pure]
  have e1 : Array.map (fun x => z[x % z.size]!) (Array.range (n * z.size)) = Builtin.zeroCells z n := rfl
  rw [e1, hf]
  rfl
/-- A row of elements that are all told. -/
theorem k_buildSliceN {t e d B n : Nat} {parts : List (Nat × Operand)} {vs : List Value} {z : List Value} {c' zs : List Value} (ps : List (Nat × Nat)) (is : List Nat) (hv : evs ρ (parts.map (·.2)) = some vs) (hT : ElemT S.P t e z.toArray B) (hi : parts.map (·.1) = is)
    (hps : ∀ i ∈ is, ps[i]? = some (i * z.length, z.length)) (h0 : z.length ≠ 0) (hn0 : n * z.length ≠ 0) (h1 : n * z.length ≤ 16777216) (hzs : Builtin.zeroCells z.toArray n = zs.toArray) [hf : FillP ps zs is vs c'] (hd : Nat.blt d S.n = true)
    (hn : ∀ b, N ((d, .slice (some ⟨b, 0, none⟩) n n) :: ρ) (Blk b (.cells c'.toArray e (0, 0)) :: L)) :
    OpK S ops ⟨some d, .buildSlice t n parts.toArray, ty, pos, after, none⟩ ρ L N := by
  intro a w ha hw
  unfold OpA
  rw [if_pos wanted_none]
  have hm : ∀ (parts : List (Nat × Operand)), (parts.map fun (x : Nat × Operand) => (x.1, a.eval x.2)) = (parts.map (·.1)).zip ((parts.map (·.2)).map a.eval) := fun parts => by
    induction parts with
    | nil => rfl
    | cons p r ih => simp [ih]
  have h2 := hm parts
  rw [evs_map ha hv, hi] at h2
  have h4 : (parts.toArray.map fun (x : Nat × Operand) => (x.1, a.eval x.2)) = (is.zip vs).toArray := by
    apply Array.ext'
    rw [← h2]; simp
  have hfill : Instr.fill (fun i => some (i * z.toArray.size, z.toArray.size)) (Builtin.zeroCells z.toArray n) (is.zip vs) = some c'.toArray := by
    rw [hzs, ← hf.eq]
    refine fill_congr fun x hx => ?_
    obtain ⟨i, v⟩ := x
    have := hps i (List.of_mem_zip hx).1
    simp only [this, List.size_toArray]
  have hr : (execOp a.eval ⟨some d, .buildSlice t n parts.toArray, ty, pos, after, none⟩).run S.P w = ((Instr.buildSlice t n (is.zip vs).toArray).run S.P w).andThen fun v w' => .ok (.value v) w' := by
    rw [← h4]; simp [execOp]
  rw [hr, run_buildSliceN hT (by simpa using h0) (by simpa using hn0) (by simpa using h1) hfill]
  exact ⟨_, _, ha.put (blt_lt hd) _, hw.new _ rfl rfl rfl rfl, hn _⟩
end
end Go.PS
