/-
  What single operations yield where the environment and memory are known: values, addresses, loads, arithmetic, tests.
  Conditions: each lemma's own.
-/
import Derived.Test.YtopkabhgkhjecaaGreatCore
import Derived.KernelRfl
import Derived.WalkLawsBesides
import Derived.IntWalk
namespace Go.PS
open Go

/-- 'b' is a block of what is known. -/
class Has (b : Nat) (o : outParam Obj) (L : List HP) : Prop where
  mem : Blk b o ∈ L
instance hasTail {b : Nat} {o : Obj} {A : HP} {L : List HP} [h : Has b o L] : Has b o (A :: L) := ⟨.tail _ h.mem⟩
instance hasHead {b : Nat} {o : Obj} {L : List HP} : Has b o (Blk b o :: L) := ⟨.head _⟩

/-- What is known when block 'b' has come to hold 'o'. -/
class Upd (b : Nat) (o : Obj) (L : List HP) (L' : outParam (List HP)) : Prop where
  split : ∃ s t u, L = s ++ Blk b u :: t ∧ L' = s ++ Blk b o :: t
instance updTail {b : Nat} {o : Obj} {A : HP} {L L' : List HP} [h : Upd b o L L'] : Upd b o (A :: L) (A :: L') :=
  ⟨let ⟨s, t, u, h1, h2⟩ := h.split; ⟨A :: s, t, u, by rw [h1]; rfl, by rw [h2]; rfl⟩⟩
instance updHead {b : Nat} {o u : Obj} {L : List HP} : Upd b o (Blk b u :: L) (Blk b o :: L) := ⟨[], L, u, rfl, rfl⟩

theorem blt_lt {a b : Nat} (h : Nat.blt a b = true) : a < b := by simpa using h

def plainT (P : Program) (t : TypeId) : Bool :=
  match P.underlying t with
  | some (.struct _) | some (.array ..) | none => false
  | some _ => true
def aggT (P : Program) (t : TypeId) (n : Nat) : Bool :=
  (match P.underlying t with | some (.struct _) | some (.array ..) => true | _ => false) && ((P.info? t).map (·.size)) == some n
def sizeT (P : Program) (t : TypeId) (n : Nat) : Bool := ((P.info? t).map (·.size)) == some n
def fieldT (P : Program) (s : TypeId) (f fo : Nat) : Bool :=
  match P.underlying s with
  | some (.struct fs) => match fs[f]? with
    | some fd => fd.offset == fo && (match (P.info? fd.type).map (·.size) with | some 0 => false | some _ => true | none => false)
    | none => false
  | _ => false

section
variable {P : Program} {w : World} {t : TypeId}
theorem run_underlying (t : TypeId) {d : TypeDesc} (h : P.underlying t = some d) : (underlying t).run P w = .ok d w := by
  simp [Go.underlying, program, h, Sem.run]
theorem run_isAgg_plain (h : plainT P t = true) : (isAgg t).run P w = .ok false w := by
  unfold plainT at h
  unfold isAgg
  cases hu : P.underlying t with
  | none => rw [hu] at h; cases h
  | some d =>
    rw [hu] at h
    simp only [Sem.run_bind, run_underlying t hu, Result.andThen_ok]
    cases d <;> first | rfl | cases h
theorem run_isAgg_agg {n : Nat} (h : aggT P t n = true) : (isAgg t).run P w = .ok true w := by
  unfold aggT at h
  simp only [Bool.and_eq_true] at h
  unfold isAgg
  cases hu : P.underlying t with
  | none => rw [hu] at h; cases h.1
  | some d =>
    rw [hu] at h
    simp only [Sem.run_bind, run_underlying t hu, Result.andThen_ok]
    cases d <;> first | rfl | cases h.1
theorem run_typeInfo {i : TypeInfo} (h : P.info? t = some i) : (typeInfo t).run P w = .ok i w := by
  simp [typeInfo, program, h, Sem.run]
theorem run_sizeOf {n : Nat} (h : sizeT P t n = true) : (sizeOf t).run P w = .ok n w := by
  unfold sizeT at h
  cases hi : P.info? t with
  | none => rw [hi] at h; cases h
  | some i =>
    rw [hi] at h
    simp at h
    simp [sizeOf, run_typeInfo hi, h]
theorem sizeT_of_agg {n : Nat} (h : aggT P t n = true) : sizeT P t n = true := by
  unfold aggT at h; simp only [Bool.and_eq_true] at h; exact h.2
end

section
variable {S : Setup} {ρ : Env} {L : List HP} {ty : TypeId}

/-- In whatever fits, the operation yields 'v' and turns nothing. -/
def Ev (S : Setup) (op : Op) (ty : TypeId) (ρ : Env) (L : List HP) (v : Value) : Prop :=
  ∀ a w dst pos after guard, Agr a S.n S.ds ρ → Sat S.G w L → (execOp a.eval ⟨dst, op, ty, pos, after, guard⟩).run S.P w = .ok (.value v) w

theorem wanted_none {a : Act} {ops : Array Oper} {dst : Option Tmp} {op : Op} {pos : String} {after : Array Edge} : Region.wanted ⟨dst, op, ty, pos, after, none⟩ (yielded ops a.tmps) = true := rfl

theorem k_val {ops : Array Oper} {op : Op} {d : Nat} {pos : String} {after : Array Edge} {v : Value} {N : Env → List HP → Prop} (h : Ev S op ty ρ L v) (hd : Nat.blt d S.n = true) (hn : N ((d, v) :: ρ) L) :
    OpK S ops ⟨some d, op, ty, pos, after, none⟩ ρ L N := by
  intro a w ha hw
  unfold OpA
  rw [if_pos wanted_none, h a w _ _ _ _ ha hw]
  exact ⟨_, L, ha.put (blt_lt hd) v, hw, hn⟩
theorem k_valN {ops : Array Oper} {op : Op} {pos : String} {after : Array Edge} {v : Value} {N : Env → List HP → Prop} (h : Ev S op ty ρ L v) (hn : N ρ L) :
    OpK S ops ⟨none, op, ty, pos, after, none⟩ ρ L N := by
  intro a w ha hw
  unfold OpA
  rw [if_pos wanted_none, h a w _ _ _ _ ha hw]
  exact ⟨_, L, ha, hw, hn⟩

/-- A guard that is known. -/
theorem k_guard {ops : Array Oper} {op : Op} {dst : Option Nat} {pos : String} {after : Array Edge} {j t : Nat} {c : Bool} {N : Env → List HP → Prop}
    (hj : (ops[j]?).bind (·.dst) = some t) (hc : look ρ t = some (.bool c)) (ht : Nat.blt t S.n = true) (h : OpK S ops ⟨dst, op, ty, pos, after, none⟩ ρ L N) :
    OpK S ops ⟨dst, op, ty, pos, after, some (j, c)⟩ ρ L N := by
  intro a w ha hw
  have h1 := h a w ha hw
  have hlt : t < a.tmps.size := by rw [ha.size]; exact blt_lt ht
  have hy : yielded ops a.tmps j = some c := by
    have := ha.at_ t _ hc
    rw [Array.getD_eq_getD_getElem?, Array.getElem?_eq_getElem hlt, Option.getD_some] at this
    unfold yielded
    rw [hj, Option.bind_some, Array.getElem?_eq_getElem hlt, this]
  unfold OpA at h1 ⊢
  rw [if_pos wanted_none] at h1
  rw [if_pos (by simp [Region.wanted, hy])]
  exact h1
theorem k_skip {ops : Array Oper} {op : Op} {d : Nat} {pos : String} {after : Array Edge} {j t : Nat} {c : Bool} {N : Env → List HP → Prop}
    (hj : (ops[j]?).bind (·.dst) = some t) (hc : look ρ t = some (.bool (!c))) (ht : Nat.blt t S.n = true) (hd : Nat.blt d S.n = true) (hn : N ((d, undef) :: ρ) L) :
    OpK S ops ⟨some d, op, ty, pos, after, some (j, c)⟩ ρ L N := by
  intro a w ha hw
  have hlt : t < a.tmps.size := by rw [ha.size]; exact blt_lt ht
  have hy : yielded ops a.tmps j = some (!c) := by
    have := ha.at_ t _ hc
    rw [Array.getD_eq_getD_getElem?, Array.getElem?_eq_getElem hlt, Option.getD_some] at this
    unfold yielded
    rw [hj, Option.bind_some, Array.getElem?_eq_getElem hlt, this]
  unfold OpA
  rw [if_neg (by simp [Region.wanted, hy])]
  exact ⟨_, L, ha.put (blt_lt hd) _, hw, hn⟩

/-! ### Values -/

theorem ev_move {x : Operand} {v : Value} (h : ev ρ x = some v) : Ev S (.move x) ty ρ L v := by
  intro a w _ _ _ _ ha hw
  simp only [execOp, ha.ev h]; rfl
theorem ev_assign {x : Operand} {v : Value} (h : ev ρ x = some v) : Ev S (.assign x) ty ρ L v := by
  intro a w _ _ _ _ ha hw
  simp only [execOp, ha.ev h]; rfl
theorem ev_pickT {c x y : Operand} {v : Value} (hc : ev ρ c = some (.bool true)) (h : ev ρ x = some v) : Ev S (.pick c x y) ty ρ L v := by
  intro a w _ _ _ _ ha hw
  simp [execOp, ha.ev h, ha.ev hc, asBool]
theorem ev_pickF {c x y : Operand} {v : Value} (hc : ev ρ c = some (.bool false)) (h : ev ρ y = some v) : Ev S (.pick c x y) ty ρ L v := by
  intro a w _ _ _ _ ha hw
  simp [execOp, ha.ev h, ha.ev hc, asBool]
theorem ev_nilCheck {x : Operand} {p : Addr} (h : ev ρ x = some (.pointer (some p))) : Ev S (.nilCheck x) ty ρ L (.pointer (some p)) := by
  intro a w _ _ _ _ ha hw
  simp only [execOp, ha.ev h]; rfl
theorem run_fieldPlace {a : Addr} {s f fo : Nat} {fs : Array Field} {fd : Field} {w : World} {P : Program} (hu : P.underlying s = some (.struct fs)) (hfd : fs[f]? = some fd) (hf : fieldT P s f fo = true) :
    fd.offset = fo ∧ (fieldPlace a fd).run P w = .ok (a.add fo) w := by
  unfold fieldT at hf
  simp only [hu, hfd, Bool.and_eq_true, beq_iff_eq] at hf
  obtain ⟨rfl, h2⟩ := hf
  refine ⟨rfl, ?_⟩
  cases hi : P.info? fd.type with
  | none => rw [hi] at h2; cases h2
  | some i =>
    rw [hi] at h2
    have hsz : i.size ≠ 0 := fun e => by simp [e] at h2
    simp only [fieldPlace, sizeOf, Sem.run_bind, run_typeInfo hi, Result.andThen_ok, Sem.run_pure, if_neg hsz]
theorem fieldT_parts {P : Program} {s f fo : Nat} (hf : fieldT P s f fo = true) : ∃ fs fd, P.underlying s = some (.struct fs) ∧ fs[f]? = some fd := by
  unfold fieldT at hf
  split at hf
  · rename_i fs hu
    split at hf
    · rename_i fd hfd; exact ⟨fs, fd, hu, hfd⟩
    · cases hf
  · cases hf
theorem ev_fieldAddr {s f : Nat} {p : Addr} {x : Operand} (fo : Nat) (h : ev ρ x = some (.pointer (some p))) (hf : fieldT S.P s f fo = true) :
    Ev S (.fieldAddr s x f) ty ρ L (.pointer (some (p.add fo))) := by
  intro a w _ _ _ _ ha hw
  obtain ⟨fs, fd, hu, hfd⟩ := fieldT_parts hf
  simp only [execOp, ha.ev h, Instr.fieldAt, Sem.run_bind, run_underlying s hu, Result.andThen_ok, hfd, Instr.sureAddr, Sem.run_pure, (run_fieldPlace (a := p) (w := w) hu hfd hf).2]
theorem ev_fieldAddr0 {s f b : Nat} {x : Operand} (fo : Nat) (h : ev ρ x = some (.pointer (some ⟨b, 0, none⟩))) (hf : fieldT S.P s f fo = true) :
    Ev S (.fieldAddr s x f) ty ρ L (.pointer (some ⟨b, fo, none⟩)) := by
  have := ev_fieldAddr (L := L) (ty := ty) fo h hf
  have e : (⟨b, 0, none⟩ : Addr).add fo = ⟨b, fo, none⟩ := by
    unfold Addr.add
    split
    · rename_i h0; subst h0; rfl
    · simp
  rwa [e] at this

/-- Whatever is known of memory holds block 'b' with these cells. -/
class Reads (G : World) (L : List HP) (b : Nat) (c : outParam (Array Value)) : Prop where
  read : ∀ w, Sat G w L → ∃ T fz, w.heap[b]? = some (.cells c T fz)
instance readsTail {G : World} {A : HP} {L : List HP} {b : Nat} {c : Array Value} [h : Reads G L b c] : Reads G (A :: L) b c := ⟨fun w hw => h.read w hw.tail⟩
instance readsHead {G : World} {L : List HP} {b : Nat} {c : Array Value} {T : TypeId} {fz : Nat × Nat} : Reads G (Blk b (.cells c T fz) :: L) b c := ⟨fun _ hw => ⟨T, fz, hw.blk⟩⟩
theorem reads_old {G : World} {L : List HP} {b : Nat} {c : Array Value} {T : TypeId} {fz : Nat × Nat} (hm : Old G ∈ L) (h : G.heap[b]? = some (.cells c T fz)) : Reads G L b c := ⟨fun _ hw => ⟨T, fz, hw.oldOf hm h⟩⟩

theorem reads_mem {G : World} {L : List HP} {b : Nat} {c : Array Value} {T : TypeId} {fz : Nat × Nat} (hm : Blk b (.cells c T fz) ∈ L) : Reads G L b c := ⟨fun _ hw => ⟨T, fz, hw.get hm⟩⟩
theorem cell_of {w : World} {b off : Nat} {c : Array Value} {T : TypeId} {fz : Nat × Nat} (h : w.heap[b]? = some (.cells c T fz)) : w.cell? ⟨b, off, none⟩ = c[off]? := by
  simp [World.cell?, h]

/-- A cell of a row that is written out. -/
class GetL (l : List Value) (i : Nat) (v : outParam Value) : Prop where
  eq : l[i]? = some v
instance getL0 {x : Value} {l : List Value} : GetL (x :: l) 0 x := ⟨rfl⟩
instance getLS {x v : Value} {l : List Value} {i : Nat} [h : GetL l i v] : GetL (x :: l) (i + 1) v := ⟨by rw [List.getElem?_cons_succ, h.eq]⟩
class GetC (c : Array Value) (i : Nat) (v : outParam Value) : Prop where
  eq : c[i]? = some v
instance getCL {l : List Value} {i : Nat} {v : Value} [h : GetL l i v] : GetC l.toArray i v := ⟨by simpa using h.eq⟩

theorem ev_loadAt {t b off : Nat} {c : Array Value} {x : Operand} {v : Value} (hx : ev ρ x = some (.pointer (some ⟨b, off, none⟩))) [hr : Reads S.G L b c] (hc : c[off]? = some v) (ht : plainT S.P t = true) :
    Ev S (.load t x) ty ρ L v := by
  intro a w _ _ _ _ ha hw
  obtain ⟨T, fz, hb⟩ := hr.read w hw
  simp only [execOp, ha.ev hx, Instr.loadAt, Instr.sureAddr, Sem.run_bind, Sem.run_pure, Result.andThen_ok, loadVar, run_isAgg_plain ht]
  simp [load, Sem.run, cell_of hb, hc]
theorem ev_load {t b off : Nat} {c : Array Value} {x : Operand} {v : Value} (hx : ev ρ x = some (.pointer (some ⟨b, off, none⟩))) [hr : Reads S.G L b c] [hc : GetC c off v] (ht : plainT S.P t = true) :
    Ev S (.load t x) ty ρ L v := ev_loadAt hx hc.eq ht
theorem add_off {b off i : Nat} : (⟨b, off, none⟩ : Addr).add i = ⟨b, off + i, none⟩ := by
  unfold Addr.add
  split
  · rename_i h; subst h; rfl
  · rfl
theorem run_loadCells_blk {P : Program} {w : World} {b off n : Nat} {c : Array Value} {T : TypeId} {fz : Nat × Nat} (hb : w.heap[b]? = some (.cells c T fz)) (hn : off + n ≤ c.size) :
    (loadCells ⟨b, off, none⟩ n).run P w = .ok (c.extract off (off + n)) w := by
  have h := run_loadCells_list (P := P) w ⟨b, off, none⟩ (c.extract off (off + n)).toList (fun j v hj => by
    rw [add_off, cell_of hb]
    simp only [Array.toList_extract, List.extract_eq_take_drop, List.getElem?_take, List.getElem?_drop, Array.getElem?_toList] at hj
    split at hj
    · exact hj
    · cases hj)
  have hlen : (c.extract off (off + n)).toList.length = n := by simp; omega
  rw [hlen] at h
  rw [h, Array.toArray_toList]
theorem ev_loadAgg {t b off : Nat} {c : Array Value} {x : Operand} (n : Nat) (hx : ev ρ x = some (.pointer (some ⟨b, off, none⟩))) [hr : Reads S.G L b c] (hc : off + n ≤ c.size) (ht : aggT S.P t n = true) :
    Ev S (.load t x) ty ρ L (.agg (c.extract off (off + n))) := by
  intro a w _ _ _ _ ha hw
  obtain ⟨T, fz, hb⟩ := hr.read w hw
  simp only [execOp, ha.ev hx, Instr.loadAt, Instr.sureAddr, Sem.run_bind, Sem.run_pure, Result.andThen_ok, loadVar, run_isAgg_agg ht, run_sizeOf (sizeT_of_agg ht), if_true, run_loadCells_blk hb hc]
/-- A struct that is a whole block. -/
theorem ev_loadAll {t b : Nat} {c : Array Value} {x : Operand} (hx : ev ρ x = some (.pointer (some ⟨b, 0, none⟩))) [hr : Reads S.G L b c] (ht : aggT S.P t c.size = true) :
    Ev S (.load t x) ty ρ L (.agg c) := by
  have := ev_loadAgg (S := S) (L := L) (ty := ty) (c := c) c.size hx (by omega) ht
  have e : c.extract 0 (0 + c.size) = c := by simp
  rwa [e] at this

/-! ### Tests and arithmetic -/
theorem eqGuard_calm {P : Program} {w : World} {op : BinOp} {t : TypeId} {x y : Operand} {a b : Value} (ha : ∀ cs, a ≠ .agg cs) (hb : a ≠ .nilIface) : (eqGuard op t x y a b).run P w = .ok () w := by
  unfold eqGuard
  cases op <;> cases a <;> first | rfl | exact absurd rfl hb | exact absurd rfl (ha _)
section
variable {x y : Operand} {t t' : TypeId}
theorem ev_bin {op : BinOp} {u v r : Value} (hx : ev ρ x = some u) (hy : ev ρ y = some v) (h1 : ∀ cs, u ≠ .agg cs) (h2 : u ≠ .nilIface) (h : ∀ w, (binOp op t u v).run S.P w = .ok r w) :
    Ev S (.binOp op t x y t') ty ρ L r := by
  intro a w _ _ _ _ ha hw
  simp only [execOp, ha.ev hx, ha.ev hy, Sem.run_bind, eqGuard_calm h1 h2, Result.andThen_ok, h w, Sem.run_pure]
theorem ev_int {op : BinOp} {k : IntKind} {m n : Int} {r : Value} (hx : ev ρ x = some (.int k m)) (hy : ev ρ y = some (.int k n)) (h : ∀ w, (binOp op t (.int k m) (.int k n)).run S.P w = .ok r w) :
    Ev S (.binOp op t x y t') ty ρ L r := ev_bin hx hy (fun _ h => by cases h) (fun h => by cases h) h
theorem ev_add {k : IntKind} {m n : Int} (hx : ev ρ x = some (.int k m)) (hy : ev ρ y = some (.int k n)) : Ev S (.binOp .add t x y t') ty ρ L (.int k (k.wrap (m + n))) :=
  ev_int hx hy fun w => by simp [binOp, Op.intArith]
theorem ev_sub {k : IntKind} {m n : Int} (hx : ev ρ x = some (.int k m)) (hy : ev ρ y = some (.int k n)) : Ev S (.binOp .sub t x y t') ty ρ L (.int k (k.wrap (m - n))) :=
  ev_int hx hy fun w => by simp [binOp, Op.intArith]
theorem ev_mul {k : IntKind} {m n : Int} (hx : ev ρ x = some (.int k m)) (hy : ev ρ y = some (.int k n)) : Ev S (.binOp .mul t x y t') ty ρ L (.int k (k.wrap (m * n))) :=
  ev_int hx hy fun w => by simp [binOp, Op.intArith]
theorem wrap_in {n : Int} (h : -9223372036854775808 ≤ n ∧ n ≤ 9223372036854775807) : IntKind.i64.wrap n = n := IntWalk.i64_in n h
theorem ev_addI {m n : Int} (hx : ev ρ x = some (.int .i64 m)) (hy : ev ρ y = some (.int .i64 n)) (h : -9223372036854775808 ≤ m + n ∧ m + n ≤ 9223372036854775807) : Ev S (.binOp .add t x y t') ty ρ L (.int .i64 (m + n)) := by
  have := ev_add (S := S) (L := L) (ty := ty) (t := t) (t' := t') hx hy; rwa [wrap_in h] at this
theorem ev_subI {m n : Int} (hx : ev ρ x = some (.int .i64 m)) (hy : ev ρ y = some (.int .i64 n)) (h : -9223372036854775808 ≤ m - n ∧ m - n ≤ 9223372036854775807) : Ev S (.binOp .sub t x y t') ty ρ L (.int .i64 (m - n)) := by
  have := ev_sub (S := S) (L := L) (ty := ty) (t := t) (t' := t') hx hy; rwa [wrap_in h] at this
theorem ev_mulI {m n : Int} (hx : ev ρ x = some (.int .i64 m)) (hy : ev ρ y = some (.int .i64 n)) (h : -9223372036854775808 ≤ m * n ∧ m * n ≤ 9223372036854775807) : Ev S (.binOp .mul t x y t') ty ρ L (.int .i64 (m * n)) := by
  have := ev_mul (S := S) (L := L) (ty := ty) (t := t) (t' := t') hx hy; rwa [wrap_in h] at this
theorem ev_quo {k : IntKind} {m n : Int} (hx : ev ρ x = some (.int k m)) (hy : ev ρ y = some (.int k n)) (h0 : n ≠ 0) : Ev S (.binOp .quo t x y t') ty ρ L (.int k (k.wrap (m.tdiv n))) :=
  ev_int hx hy fun w => by simp [binOp, Op.intDiv, h0]
theorem ev_rem {k : IntKind} {m n : Int} (hx : ev ρ x = some (.int k m)) (hy : ev ρ y = some (.int k n)) (h0 : n ≠ 0) : Ev S (.binOp .rem t x y t') ty ρ L (.int k (m.tmod n)) :=
  ev_int hx hy fun w => by simp [binOp, Op.intDiv, h0]
/-! .. where both are whole numbers from 0 on, and the outcome is one that the type holds -/
section
variable {m n : Nat} {e f : Int}
theorem ev_addN (hx : ev ρ x = some (.int .i64 e)) (hy : ev ρ y = some (.int .i64 f)) (he : e = m) (hf : f = n) (h : m + n ≤ 9223372036854775807) : Ev S (.binOp .add t x y t') ty ρ L (.int .i64 (m + n : Nat)) := by
  subst he hf
  have := ev_add (S := S) (L := L) (ty := ty) (t := t) (t' := t') hx hy; rwa [IntWalk.i64_in _ (by omega), ← Int.natCast_add] at this
theorem ev_subN (hx : ev ρ x = some (.int .i64 e)) (hy : ev ρ y = some (.int .i64 f)) (he : e = m) (hf : f = n) (h : n ≤ m) (h' : m ≤ 9223372036854775807) : Ev S (.binOp .sub t x y t') ty ρ L (.int .i64 (m - n : Nat)) := by
  subst he hf
  have := ev_sub (S := S) (L := L) (ty := ty) (t := t) (t' := t') hx hy; rwa [IntWalk.i64_in _ (by omega), ← Int.natCast_sub h] at this
theorem ev_mulN (hx : ev ρ x = some (.int .i64 e)) (hy : ev ρ y = some (.int .i64 f)) (he : e = m) (hf : f = n) (h : m * n ≤ 9223372036854775807) : Ev S (.binOp .mul t x y t') ty ρ L (.int .i64 (m * n : Nat)) := by
  subst he hf
  have := ev_mul (S := S) (L := L) (ty := ty) (t := t) (t' := t') hx hy; rwa [← Int.natCast_mul, IntWalk.i64_in _ (by omega)] at this
theorem ev_addU (hx : ev ρ x = some (.int .u64 e)) (hy : ev ρ y = some (.int .u64 f)) (he : e = m) (hf : f = n) (h : m + n ≤ 18446744073709551615) : Ev S (.binOp .add t x y t') ty ρ L (.int .u64 (m + n : Nat)) := by
  subst he hf
  have := ev_add (S := S) (L := L) (ty := ty) (t := t) (t' := t') hx hy; rwa [IntWalk.u64_in _ (by omega), ← Int.natCast_add] at this
theorem ev_subU (hx : ev ρ x = some (.int .u64 e)) (hy : ev ρ y = some (.int .u64 f)) (he : e = m) (hf : f = n) (h : n ≤ m) (h' : m ≤ 18446744073709551615) : Ev S (.binOp .sub t x y t') ty ρ L (.int .u64 (m - n : Nat)) := by
  subst he hf
  have := ev_sub (S := S) (L := L) (ty := ty) (t := t) (t' := t') hx hy; rwa [IntWalk.u64_in _ (by omega), ← Int.natCast_sub h] at this
theorem ev_mulU (hx : ev ρ x = some (.int .u64 e)) (hy : ev ρ y = some (.int .u64 f)) (he : e = m) (hf : f = n) (h : m * n ≤ 18446744073709551615) : Ev S (.binOp .mul t x y t') ty ρ L (.int .u64 (m * n : Nat)) := by
  subst he hf
  have := ev_mul (S := S) (L := L) (ty := ty) (t := t) (t' := t') hx hy; rwa [← Int.natCast_mul, IntWalk.u64_in _ (by omega)] at this
theorem ev_remN {k : IntKind} (hx : ev ρ x = some (.int k e)) (hy : ev ρ y = some (.int k f)) (he : e = m) (hf : f = n) (h0 : n ≠ 0) : Ev S (.binOp .rem t x y t') ty ρ L (.int k (m % n : Nat)) := by
  subst he hf
  have := ev_rem (S := S) (L := L) (ty := ty) (t := t) (t' := t') hx hy (by omega); rwa [Int.tmod_eq_emod_of_nonneg (by omega), ← Int.natCast_emod] at this
theorem ev_quoN (hx : ev ρ x = some (.int .i64 e)) (hy : ev ρ y = some (.int .i64 f)) (he : e = m) (hf : f = n) (h0 : n ≠ 0) (h : m ≤ 9223372036854775807) : Ev S (.binOp .quo t x y t') ty ρ L (.int .i64 (m / n : Nat)) := by
  subst he hf
  have hle : m / n ≤ m := Nat.div_le_self _ _
  have := ev_quo (S := S) (L := L) (ty := ty) (t := t) (t' := t') hx hy (by omega); rw [Int.tdiv_eq_ediv_of_nonneg (by omega), ← Int.natCast_ediv] at this; generalize m / n = q at *; rwa [IntWalk.i64_in _ (by omega)] at this
theorem ev_quoU (hx : ev ρ x = some (.int .u64 e)) (hy : ev ρ y = some (.int .u64 f)) (he : e = m) (hf : f = n) (h0 : n ≠ 0) (h : m ≤ 18446744073709551615) : Ev S (.binOp .quo t x y t') ty ρ L (.int .u64 (m / n : Nat)) := by
  subst he hf
  have hle : m / n ≤ m := Nat.div_le_self _ _
  have := ev_quo (S := S) (L := L) (ty := ty) (t := t) (t' := t') hx hy (by omega); rw [Int.tdiv_eq_ediv_of_nonneg (by omega), ← Int.natCast_ediv] at this; generalize m / n = q at *; rwa [IntWalk.u64_in _ (by omega)] at this
end
def bitsRaw (op : BinOp) (k : IntKind) (m n : Int) : Int :=
  let a := BitVec.ofInt k.bits m
  let b := BitVec.ofInt k.bits n
  k.wrap (match op with | .and => a &&& b | .or => a ||| b | .xor => a ^^^ b | _ => a &&& ~~~b).toNat
theorem bits_ex : ∃ f : BinOp → IntKind → Int → Int → Int, f = bitsRaw := ⟨_, rfl⟩
/-- The bits of two numbers laid together: known by its law alone, so that nothing reckons it unasked. -/
noncomputable def bitsI : BinOp → IntKind → Int → Int → Int := Classical.choose bits_ex
theorem bitsI_eq : bitsI = bitsRaw := Classical.choose_spec bits_ex
theorem ev_and {k : IntKind} {m n : Int} (hx : ev ρ x = some (.int k m)) (hy : ev ρ y = some (.int k n)) : Ev S (.binOp .and t x y t') ty ρ L (.int k (bitsI .and k m n)) :=
  ev_int hx hy fun w => by simp [binOp, Op.intBits, bitsI_eq, bitsRaw]
theorem ev_or {k : IntKind} {m n : Int} (hx : ev ρ x = some (.int k m)) (hy : ev ρ y = some (.int k n)) : Ev S (.binOp .or t x y t') ty ρ L (.int k (bitsI .or k m n)) :=
  ev_int hx hy fun w => by simp [binOp, Op.intBits, bitsI_eq, bitsRaw]
theorem ev_xor {k : IntKind} {m n : Int} (hx : ev ρ x = some (.int k m)) (hy : ev ρ y = some (.int k n)) : Ev S (.binOp .xor t x y t') ty ρ L (.int k (bitsI .xor k m n)) :=
  ev_int hx hy fun w => by simp [binOp, Op.intBits, bitsI_eq, bitsRaw]
theorem ev_shr {k k' : IntKind} {m n : Int} (hx : ev ρ x = some (.int k m)) (hy : ev ρ y = some (.int k' n)) (h0 : 0 ≤ n) : Ev S (.binOp .shr t x y t') ty ρ L (.int k (m.fdiv (2 ^ min n.toNat k.bits))) :=
  ev_bin hx hy (fun _ h => by cases h) (fun h => by cases h) fun w => by
    have : ¬ n < 0 := by omega
    simp [binOp, Op.shift, this]
theorem ev_shl {k k' : IntKind} {m n : Int} (hx : ev ρ x = some (.int k m)) (hy : ev ρ y = some (.int k' n)) (h0 : 0 ≤ n) : Ev S (.binOp .shl t x y t') ty ρ L (.int k (k.wrap (m * 2 ^ min n.toNat k.bits))) :=
  ev_bin hx hy (fun _ h => by cases h) (fun h => by cases h) fun w => by
    have : ¬ n < 0 := by omega
    simp [binOp, Op.shift, this]
theorem ev_eqI {k : IntKind} {m n : Int} (hx : ev ρ x = some (.int k m)) (hy : ev ρ y = some (.int k n)) : Ev S (.binOp .eql t x y t') ty ρ L (.bool (decide (m = n))) :=
  ev_int hx hy fun w => by simp [binOp, Op.intCmp]; rfl
theorem ev_neI {k : IntKind} {m n : Int} (hx : ev ρ x = some (.int k m)) (hy : ev ρ y = some (.int k n)) : Ev S (.binOp .neq t x y t') ty ρ L (.bool (decide (m ≠ n))) :=
  ev_int hx hy fun w => by simp [binOp, Op.intCmp, bne, BEq.beq]
theorem ev_lt {k : IntKind} {m n : Int} (hx : ev ρ x = some (.int k m)) (hy : ev ρ y = some (.int k n)) : Ev S (.binOp .lss t x y t') ty ρ L (.bool (decide (m < n))) :=
  ev_int hx hy fun w => by simp [binOp, Op.intCmp]
theorem ev_le {k : IntKind} {m n : Int} (hx : ev ρ x = some (.int k m)) (hy : ev ρ y = some (.int k n)) : Ev S (.binOp .leq t x y t') ty ρ L (.bool (decide (m ≤ n))) :=
  ev_int hx hy fun w => by simp [binOp, Op.intCmp]
theorem ev_gt {k : IntKind} {m n : Int} (hx : ev ρ x = some (.int k m)) (hy : ev ρ y = some (.int k n)) : Ev S (.binOp .gtr t x y t') ty ρ L (.bool (decide (n < m))) :=
  ev_int hx hy fun w => by simp [binOp, Op.intCmp]
theorem ev_ge {k : IntKind} {m n : Int} (hx : ev ρ x = some (.int k m)) (hy : ev ρ y = some (.int k n)) : Ev S (.binOp .geq t x y t') ty ρ L (.bool (decide (n ≤ m))) :=
  ev_int hx hy fun w => by simp [binOp, Op.intCmp]
theorem ev_bT {op : Op} {p : Prop} [Decidable p] (h : Ev S op ty ρ L (.bool (decide p))) (hp : p) : Ev S op ty ρ L (.bool true) := by rwa [decide_eq_true hp] at h
theorem ev_bF {op : Op} {p : Prop} [Decidable p] (h : Ev S op ty ρ L (.bool (decide p))) (hp : ¬ p) : Ev S op ty ρ L (.bool false) := by rwa [decide_eq_false hp] at h
theorem str_beq (a b : ByteArray) : (a.toList == b.toList) = decide (a = b) := by
  rw [Bool.eq_iff_iff, beq_iff_eq, decide_eq_true_iff, ByteArray.toList_eq, ByteArray.toList_eq]
  constructor
  · intro h; exact ByteArray.ext (Array.ext' h)
  · rintro rfl; rfl
/-- The order of texts, byte by byte. -/
def ltS (a b : ByteArray) : Bool := Op.bytesLess a.toList b.toList
theorem ev_eqS {a b : ByteArray} (hx : ev ρ x = some (.string a)) (hy : ev ρ y = some (.string b)) : Ev S (.binOp .eql t x y t') ty ρ L (.bool (decide (a = b))) :=
  ev_bin hx hy (fun _ h => by cases h) (fun h => by cases h) fun w => by simp [binOp, Op.stringOp, str_beq]
theorem ev_neS {a b : ByteArray} (hx : ev ρ x = some (.string a)) (hy : ev ρ y = some (.string b)) : Ev S (.binOp .neq t x y t') ty ρ L (.bool (decide (a ≠ b))) :=
  ev_bin hx hy (fun _ h => by cases h) (fun h => by cases h) fun w => by simp [binOp, Op.stringOp, str_beq]
theorem ev_ltS {a b : ByteArray} (hx : ev ρ x = some (.string a)) (hy : ev ρ y = some (.string b)) : Ev S (.binOp .lss t x y t') ty ρ L (.bool (ltS a b)) :=
  ev_bin hx hy (fun _ h => by cases h) (fun h => by cases h) fun w => by simp [binOp, Op.stringOp, ltS]
theorem ev_geS {a b : ByteArray} (hx : ev ρ x = some (.string a)) (hy : ev ρ y = some (.string b)) : Ev S (.binOp .geq t x y t') ty ρ L (.bool (!ltS a b)) :=
  ev_bin hx hy (fun _ h => by cases h) (fun h => by cases h) fun w => by simp [binOp, Op.stringOp, ltS]
theorem ev_leS {a b : ByteArray} (hx : ev ρ x = some (.string a)) (hy : ev ρ y = some (.string b)) : Ev S (.binOp .leq t x y t') ty ρ L (.bool (ltS a b || decide (a = b))) :=
  ev_bin hx hy (fun _ h => by cases h) (fun h => by cases h) fun w => by simp [binOp, Op.stringOp, ltS, str_beq]
theorem ev_gtS {a b : ByteArray} (hx : ev ρ x = some (.string a)) (hy : ev ρ y = some (.string b)) : Ev S (.binOp .gtr t x y t') ty ρ L (.bool (!(ltS a b || decide (a = b)))) :=
  ev_bin hx hy (fun _ h => by cases h) (fun h => by cases h) fun w => by simp [binOp, Op.stringOp, ltS, str_beq]
def ptrT (P : Program) (t : TypeId) : Bool := match P.underlying t with | some (.pointer _) => true | _ => false
theorem run_equal_nil {P : Program} {w : World} {t : TypeId} (h : ptrT P t = true) (p : Option Addr) : (Op.equal t (.pointer p) (.pointer none)).run P w = .ok p.isNone w := by
  unfold ptrT at h
  split at h
  · rename_i e hu
    unfold Op.equal Op.maxDepth Op.equalIn
    simp only [Sem.run_bind, run_underlying t hu, Result.andThen_ok]
    cases p <;> rfl
  · cases h
theorem ev_eqNil {p : Option Addr} (hx : ev ρ x = some (.pointer p)) (hy : ev ρ y = some (.pointer none)) (ht : ptrT S.P t = true) : Ev S (.binOp .eql t x y t') ty ρ L (.bool p.isNone) :=
  ev_bin hx hy (fun _ h => by cases h) (fun h => by cases h) fun w => by
    cases p <;> simp [binOp, run_equal_nil ht]
theorem ev_neNil {p : Option Addr} (hx : ev ρ x = some (.pointer p)) (hy : ev ρ y = some (.pointer none)) (ht : ptrT S.P t = true) : Ev S (.binOp .neq t x y t') ty ρ L (.bool p.isSome) :=
  ev_bin hx hy (fun _ h => by cases h) (fun h => by cases h) fun w => by
    cases p <;> simp [binOp, run_equal_nil ht]
theorem ev_not {b : Bool} (hx : ev ρ x = some (.bool b)) : Ev S (.unOp .not t x) ty ρ L (.bool !b) := by
  intro a w _ _ _ _ ha hw
  simp [execOp, ha.ev hx, Op.unary]
theorem ev_extract {vs : Array Value} {i : Nat} {v : Value} (hx : ev ρ x = some (.tuple vs)) (hi : vs[i]? = some v) : Ev S (.extract x i) ty ρ L v := by
  intro a w _ _ _ _ ha hw
  simp [execOp, ha.ev hx, Instr.extract, hi]
end

/-! ### Calls of what the language itself gives -/
def evs (ρ : Env) : List Operand → Option (List Value)
  | [] => some []
  | x :: r => match ev ρ x, evs ρ r with
    | some v, some l => some (v :: l)
    | _, _ => none
theorem evs_map {a : Act} {ρ : Env} {n : Nat} {ds : List Deferred} (ha : Agr a n ds ρ) : ∀ {l : List Operand} {vs : List Value}, evs ρ l = some vs → l.map a.eval = vs
  | [], vs, h => by simp [evs] at h; simp [h]
  | x :: r, vs, h => by
    unfold evs at h
    split at h
    · rename_i v l h1 h2
      simp at h; subst h
      simp [ha.ev h1, evs_map ha h2]
    · cases h

def sliceT (P : Program) (t e : TypeId) : Bool := match P.underlying t with | some (.slice u) => u == e | _ => false
theorem sliceT_eq {P : Program} {t e : TypeId} (h : sliceT P t e = true) : P.underlying t = some (.slice e) := by
  unfold sliceT at h
  split at h
  · rename_i u hu; simp at h; rw [hu, h]
  · cases h
def stringT (P : Program) (t : TypeId) : Bool := match P.underlying t with | some .string => true | _ => false
theorem stringT_eq {P : Program} {t : TypeId} (h : stringT P t = true) : P.underlying t = some .string := by
  unfold stringT at h
  split at h
  · assumption
  · cases h
theorem ev_lenSlice {x : Operand} {t e : TypeId} {q : Option Addr} {n m : Nat} (hx : ev ρ x = some (.slice q n m)) (ht : sliceT S.P t e = true) :
    Ev S (.call { callee := .builtin .len, args := #[x], argTypes := #[t] }) ty ρ L (.int .i64 n) := by
  intro a w _ _ _ _ ha hw
  simp [execOp, resolve, ha.ev hx, invoke, builtin, Builtin.len_, run_underlying t (sliceT_eq ht), goInt]
theorem ev_lenString {x : Operand} {t : TypeId} {s : ByteArray} (hx : ev ρ x = some (.string s)) (ht : stringT S.P t = true) :
    Ev S (.call { callee := .builtin .len, args := #[x], argTypes := #[t] }) ty ρ L (.int .i64 s.size) := by
  intro a w _ _ _ _ ha hw
  simp [execOp, resolve, ha.ev hx, invoke, builtin, Builtin.len_, run_underlying t (stringT_eq ht), goInt]
theorem ev_minI {x y : Operand} {ts : Array TypeId} {k : IntKind} {m n : Int} (hx : ev ρ x = some (.int k m)) (hy : ev ρ y = some (.int k n)) :
    Ev S (.call { callee := .builtin .min, args := #[x, y], argTypes := ts }) ty ρ L (.int k (if n < m then n else m)) := by
  intro a w _ _ _ _ ha hw
  simp [execOp, resolve, ha.ev hx, ha.ev hy, invoke, builtin, Builtin.min_, Builtin.min2]
theorem ev_maxI {x y : Operand} {ts : Array TypeId} {k : IntKind} {m n : Int} (hx : ev ρ x = some (.int k m)) (hy : ev ρ y = some (.int k n)) :
    Ev S (.call { callee := .builtin .max, args := #[x, y], argTypes := ts }) ty ρ L (.int k (if n > m then n else m)) := by
  intro a w _ _ _ _ ha hw
  simp [execOp, resolve, ha.ev hx, ha.ev hy, invoke, builtin, Builtin.max_, Builtin.max2]
theorem ev_indexAddr {x i : Operand} {t e : TypeId} {p : Addr} {n m j : Nat} {k : IntKind} (sz : Nat) (hx : ev ρ x = some (.slice (some p) n m)) (hi : ev ρ i = some (.int k j)) (hj : j < n)
    (ht : sliceT S.P t e = true) (hs : sizeT S.P e sz = true) : Ev S (.indexAddr t x i) ty ρ L (.pointer (some (p.add (j * sz)))) := by
  intro a w _ _ _ _ ha hw
  simp [execOp, ha.ev hx, ha.ev hi, Instr.indexAt, asIntOf, run_underlying t (sliceT_eq ht), run_sizeOf hs, hj]
theorem ev_indexAddrI {x i : Operand} {t e : TypeId} {p : Addr} {n m : Nat} {j : Int} {k : IntKind} (sz : Nat) (hx : ev ρ x = some (.slice (some p) n m)) (hi : ev ρ i = some (.int k j)) (h0 : 0 ≤ j) (hj : j < n)
    (ht : sliceT S.P t e = true) (hs : sizeT S.P e sz = true) : Ev S (.indexAddr t x i) ty ρ L (.pointer (some (p.add (j.toNat * sz)))) := by
  obtain ⟨q, rfl⟩ := Int.eq_ofNat_of_zero_le h0
  exact ev_indexAddr sz hx hi (by omega) ht hs
theorem ev_indexAddr1 {x i : Operand} {t e : TypeId} {b n m j : Nat} {k : IntKind} (hx : ev ρ x = some (.slice (some ⟨b, 0, none⟩) n m)) (hi : ev ρ i = some (.int k j)) (hj : j < n)
    (ht : sliceT S.P t e = true) (hs : sizeT S.P e 1 = true) : Ev S (.indexAddr t x i) ty ρ L (.pointer (some ⟨b, j, none⟩)) := by
  have := ev_indexAddr (S := S) (L := L) (ty := ty) 1 hx hi hj ht hs
  rwa [add_off, Nat.zero_add, Nat.mul_one] at this
theorem ev_indexAddrI1 {x i : Operand} {t e : TypeId} {b n m : Nat} {j : Int} {k : IntKind} (hx : ev ρ x = some (.slice (some ⟨b, 0, none⟩) n m)) (hi : ev ρ i = some (.int k j)) (h0 : 0 ≤ j) (hj : j < n)
    (ht : sliceT S.P t e = true) (hs : sizeT S.P e 1 = true) : Ev S (.indexAddr t x i) ty ρ L (.pointer (some ⟨b, j.toNat, none⟩)) := by
  have := ev_indexAddrI (S := S) (L := L) (ty := ty) 1 hx hi h0 hj ht hs
  rwa [add_off, Nat.zero_add, Nat.mul_one] at this
theorem ev_indexAddrO {x i : Operand} {t e : TypeId} {b off n m j : Nat} {k : IntKind} (sz : Nat) (hx : ev ρ x = some (.slice (some ⟨b, off, none⟩) n m)) (hi : ev ρ i = some (.int k j)) (hj : j < n)
    (ht : sliceT S.P t e = true) (hs : sizeT S.P e sz = true) : Ev S (.indexAddr t x i) ty ρ L (.pointer (some ⟨b, off + j * sz, none⟩)) := by
  have := ev_indexAddr (S := S) (L := L) (ty := ty) sz hx hi hj ht hs
  rwa [add_off] at this
theorem ev_indexAddrIO {x i : Operand} {t e : TypeId} {b off n m : Nat} {j : Int} {k : IntKind} (sz : Nat) (hx : ev ρ x = some (.slice (some ⟨b, off, none⟩) n m)) (hi : ev ρ i = some (.int k j)) (h0 : 0 ≤ j) (hj : j < n)
    (ht : sliceT S.P t e = true) (hs : sizeT S.P e sz = true) : Ev S (.indexAddr t x i) ty ρ L (.pointer (some ⟨b, off + j.toNat * sz, none⟩)) := by
  have := ev_indexAddrI (S := S) (L := L) (ty := ty) sz hx hi h0 hj ht hs
  rwa [add_off] at this
theorem ev_indexS {x i : Operand} {t : TypeId} {s : ByteArray} {j : Nat} {k : IntKind} (hx : ev ρ x = some (.string s)) (hi : ev ρ i = some (.int k j)) (hj : j < s.size)
    (ht : stringT S.P t = true) : Ev S (.index t x i) ty ρ L (.int .u8 (s[j].toNat)) := by
  intro a w _ _ _ _ ha hw
  simp [execOp, ha.ev hx, ha.ev hi, Instr.index, asIntOf, run_underlying t (stringT_eq ht), hj]
theorem ev_indexSI {x i : Operand} {t : TypeId} {s : ByteArray} {j : Int} {k : IntKind} (hx : ev ρ x = some (.string s)) (hi : ev ρ i = some (.int k j)) (h0 : 0 ≤ j) (hj : j.toNat < s.size)
    (ht : stringT S.P t = true) : Ev S (.index t x i) ty ρ L (.int .u8 (s[j.toNat].toNat)) := by
  obtain ⟨q, rfl⟩ := Int.eq_ofNat_of_zero_le h0
  exact ev_indexS hx hi hj ht
def intT (P : Program) (t : TypeId) (k : IntKind) : Bool := match P.underlying t with | some (.int q) => q == k | _ => false
theorem intT_eq {P : Program} {t : TypeId} {k : IntKind} (h : intT P t k = true) : P.underlying t = some (.int k) := by
  unfold intT at h
  split at h
  · rename_i q hu; simp at h; rw [hu, h]
  · cases h
def someT (P : Program) (t : TypeId) : Bool := (P.underlying t).isSome
theorem ev_convI {x : Operand} {s d : TypeId} {k : IntKind} {n : Int} (k' : IntKind) (hx : ev ρ x = some (.int k n)) (hd : intT S.P d k' = true) (hs : someT S.P s = true) : Ev S (.convert s d x) ty ρ L (.int k' (k'.wrap n)) := by
  intro a w _ _ _ _ ha hw
  unfold someT at hs
  obtain ⟨u, hu⟩ := Option.isSome_iff_exists.1 hs
  simp [execOp, ha.ev hx, convert, run_underlying s hu, run_underlying d (intT_eq hd), Conv.intToInt]
theorem ev_conv64 {x : Operand} {s d : TypeId} {k : IntKind} {n : Int} (hx : ev ρ x = some (.int k n)) (hd : intT S.P d .i64 = true) (hs : someT S.P s = true) (h : -9223372036854775808 ≤ n ∧ n ≤ 9223372036854775807) : Ev S (.convert s d x) ty ρ L (.int .i64 n) := by
  have := ev_convI (S := S) (L := L) (ty := ty) (s := s) .i64 hx hd hs; rwa [IntWalk.i64_in _ h] at this
theorem ev_convU64 {x : Operand} {s d : TypeId} {k : IntKind} {n : Int} (hx : ev ρ x = some (.int k n)) (hd : intT S.P d .u64 = true) (hs : someT S.P s = true) (h : 0 ≤ n ∧ n ≤ 18446744073709551615) : Ev S (.convert s d x) ty ρ L (.int .u64 n) := by
  have := ev_convI (S := S) (L := L) (ty := ty) (s := s) .u64 hx hd hs; rwa [IntWalk.u64_in _ h] at this
theorem ev_convS {x : Operand} {s d : TypeId} {n : ByteArray} (hx : ev ρ x = some (.string n)) (hs : stringT S.P s = true) (hd : stringT S.P d = true) : Ev S (.convert s d x) ty ρ L (.string n) := by
  intro a w _ _ _ _ ha hw
  simp [execOp, ha.ev hx, convert, run_underlying s (stringT_eq hs), run_underlying d (stringT_eq hd)]
theorem ev_slice {x : Operand} {lo hi : Option Operand} {t e : TypeId} {q : Option Addr} {n m l h : Nat} (sz : Nat) (hx : ev ρ x = some (.slice q n m))
    (hlo : (match lo with | none => l = 0 | some y => ∃ k, ev ρ y = some (.int k l))) (hhi : (match hi with | none => h = n | some y => ∃ k, ev ρ y = some (.int k h)))
    (h1 : l ≤ h) (h2 : h ≤ m) (ht : sliceT S.P t e = true) (hs : sizeT S.P e sz = true) :
    Ev S (.slice t x lo hi none) ty ρ L (.slice (if m = l then q else q.map (·.add (l * sz))) (h - l) (m - l)) := by
  intro a w _ _ _ _ ha hw
  cases lo with
  | none =>
    subst hlo
    cases hi with
    | none =>
      subst hhi
      simp [execOp, ha.ev hx, Instr.sliceAt, Instr.slice, Instr.sliceBounds, run_underlying t (sliceT_eq ht), run_sizeOf hs]
    | some y =>
      obtain ⟨k, hy⟩ := hhi
      simp [execOp, ha.ev hx, ha.ev hy, Instr.sliceAt, Instr.slice, Instr.sliceBounds, Instr.sliceBound, asIntOf, run_underlying t (sliceT_eq ht), run_sizeOf hs, h2]
  | some z =>
    obtain ⟨k', hz⟩ := hlo
    cases hi with
    | none =>
      subst hhi
      simp [execOp, ha.ev hx, ha.ev hz, Instr.sliceAt, Instr.slice, Instr.sliceBounds, Instr.sliceBound, asIntOf, run_underlying t (sliceT_eq ht), run_sizeOf hs, h1]
    | some y =>
      obtain ⟨k, hy⟩ := hhi
      simp [execOp, ha.ev hx, ha.ev hy, ha.ev hz, Instr.sliceAt, Instr.slice, Instr.sliceBounds, Instr.sliceBound, asIntOf, run_underlying t (sliceT_eq ht), run_sizeOf hs, h2, h1]
theorem ev_sliceB {x : Operand} {lo hi : Option Operand} {t e : TypeId} {b off : Nat} {n m l h : Nat} (sz : Nat) (hx : ev ρ x = some (.slice (some ⟨b, off, none⟩) n m))
    (hlo : (match lo with | none => l = 0 | some y => ∃ k, ev ρ y = some (.int k l))) (hhi : (match hi with | none => h = n | some y => ∃ k, ev ρ y = some (.int k h)))
    (h1 : l ≤ h) (h2 : h ≤ m) (h3 : l < m) (ht : sliceT S.P t e = true) (hs : sizeT S.P e sz = true) :
    Ev S (.slice t x lo hi none) ty ρ L (.slice (some ⟨b, off + l * sz, none⟩) (h - l) (m - l)) := by
  have := ev_slice (S := S) (L := L) (ty := ty) sz hx hlo hhi h1 h2 ht hs
  rw [if_neg (by omega), Option.map_some, add_off] at this
  exact this
theorem ev_makeFunc {fn : Fn} {first cap : Array Operand} {us vs : List Value} (h1 : evs ρ first.toList = some us) (h2 : evs ρ cap.toList = some vs) :
    Ev S (.makeFunc fn first cap) ty ρ L (.func fn us.toArray vs.toArray) := by
  intro a w _ _ _ _ ha hw
  have e1 : first.map a.eval = us.toArray := Array.ext' (by simpa using evs_map ha h1)
  have e2 : cap.map a.eval = vs.toArray := Array.ext' (by simpa using evs_map ha h2)
  simp [execOp, Instr.makeFunc, e1, e2]
def concreteT (P : Program) (t : TypeId) : Bool := match P.underlying t with | some (.interface _) | none => false | some _ => true
theorem ev_makeInterface {x : Operand} {t : TypeId} {v : Value} (hx : ev ρ x = some v) (ht : concreteT S.P t = true) : Ev S (.makeInterface t x) ty ρ L (.iface t v) := by
  intro a w _ _ _ _ ha hw
  unfold concreteT at ht
  cases hu : S.P.underlying t with
  | none => rw [hu] at ht; cases ht
  | some d =>
    rw [hu] at ht
    simp only [execOp, ha.ev hx, Instr.makeInterface, Sem.run_bind, run_underlying t hu, Result.andThen_ok]
    cases d <;> first | rfl | cases ht
end
end Go.PS
