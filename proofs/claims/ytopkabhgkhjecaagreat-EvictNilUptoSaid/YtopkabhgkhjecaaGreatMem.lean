/-
  What operations that write memory, make it, or call do to what is known; entering and leaving a function.
  Conditions: each lemma's own.
-/
import Derived.Test.YtopkabhgkhjecaaGreatOps
namespace Go.PS
open Go

/-- A list of cells with one changed. -/
class SetL (l : List Value) (i : Nat) (v : Value) (l' : outParam (List Value)) : Prop where
  eq : l.set i v = l'
instance setL0 {x v : Value} {l : List Value} : SetL (x :: l) 0 v (v :: l) := ⟨rfl⟩
instance setLS {x v : Value} {l l' : List Value} {i : Nat} [h : SetL l i v l'] : SetL (x :: l) (i + 1) v (x :: l') := ⟨by rw [List.set_cons_succ, h.eq]⟩
class SetC (c : Array Value) (i : Nat) (v : Value) (c' : outParam (Array Value)) : Prop where
  eq : c.setIfInBounds i v = c'
instance (priority := low) setCAny {c : Array Value} {i : Nat} {v : Value} : SetC c i v (c.setIfInBounds i v) := ⟨rfl⟩
instance setCL {l l' : List Value} {i : Nat} {v : Value} [h : SetL l i v l'] : SetC l.toArray i v l'.toArray := ⟨by rw [← h.eq]; simp⟩

/-- 'A' taken out of what is known. -/
class Front (A : HP) (L : List HP) (L' : outParam (List HP)) : Prop where
  perm : L.Perm (A :: L')
instance frontTail {A B : HP} {L L' : List HP} [h : Front A L L'] : Front A (B :: L) (B :: L') := ⟨(h.perm.cons B).trans (.swap A B L')⟩
instance frontHead {A : HP} {L : List HP} : Front A (A :: L) L := ⟨.refl _⟩

theorem sat_setRow {G w : World} {L : List HP} {b : Nat} {c c' : Array Value} {T : TypeId} {fz : Nat × Nat} (H : Sat G w (Blk b (.cells c T fz) :: L)) : Sat G (w.setRow b c') (Blk b (.cells c' T fz) :: L) := by
  have hb := H.blk
  refine H.set ?_ (fun i hi => ?_) rfl rfl rfl
  · simp [World.setRow, Array.getElem?_modify, hb]
  · simp only [World.setRow, Array.getElem?_modify]
    rw [if_neg (fun e => hi e.symm)]

section
variable {S : Setup} {ρ : Env} {L L' : List HP} {ty : TypeId} {ops : Array Oper} {pos : String} {after : Array Edge} {N : Env → List HP → Prop}

theorem OpK.perm {o : Oper} (p : L.Perm L') (h : OpK S ops o ρ L' N) : OpK S ops o ρ L N := fun a w ha hw => h a w ha (hw.perm p)
theorem OpK.mem {o : Oper} (p : ∀ w, Sat S.G w L → Sat S.G w L') (h : OpK S ops o ρ L' N) : OpK S ops o ρ L N := fun a w ha hw => h a w ha (p w hw)
theorem OpK.exm {o : Oper} {κ : Type} {p : κ → Prop} {M : κ → List HP} (hs : ∀ w, Sat S.G w L → ∃ x, p x ∧ Sat S.G w (M x)) (h : ∀ x, p x → OpK S ops o ρ (M x) N) : OpK S ops o ρ L N := fun a w ha hw =>
  let ⟨x, hp, hx⟩ := hs w hw; h x hp a w ha hx
theorem Run.exm {ks : List Item} {κ : Type} {p : κ → Prop} {M : κ → List HP} (hs : ∀ w, Sat S.G w L → ∃ x, p x ∧ Sat S.G w (M x)) (h : ∀ x, p x → Run S ks ρ (M x)) : Run S ks ρ L := fun a w ha hw =>
  let ⟨x, hp, hx⟩ := hs w hw; h x hp a w ha hx

theorem run_storeVar_blk {P : Program} {w : World} {b off : Nat} {t : TypeId} {c : Array Value} {T : TypeId} {v : Value} (hb : w.heap[b]? = some (.cells c T (0, 0))) (hs : sizeT P t v.cells.size = true)
    (hn : off + v.cells.size ≤ c.size) (h1 : ∀ u ∈ v.cells.toList, u.oneCell' = true) :
    (storeVar t ⟨b, off, none⟩ v).run P w = .ok () (w.setRow b (c.toList.take off ++ v.cells.toList ++ c.toList.drop (off + v.cells.size)).toArray) := by
  have h := run_storeCells_at (P := P) b off T v.cells.toList 0 c w hb (by simpa using hn) h1
  unfold storeVar
  simp only [Sem.run_bind, run_sizeOf hs, Result.andThen_ok, ne_eq, not_true_eq_false, if_false]
  simpa using h

theorem cells_one {v : Value} (h : v.oneCell' = true) : v.cells = #[v] := by cases v <;> first | rfl | cases h

theorem k_store {t b off : Nat} {c c' : Array Value} {T : TypeId} {x y : Operand} {v : Value} (hx : ev ρ x = some (.pointer (some ⟨b, off, none⟩))) (hy : ev ρ y = some v)
    [hb : Has b (.cells c T (0, 0)) L] [hc : SetC c off v c'] [hu : Upd b (.cells c' T (0, 0)) L L'] (hoff : Nat.blt off c.size = true) (h1 : v.oneCell' = true) (hs : sizeT S.P t 1 = true) (hn : N ρ L') :
    OpK S ops ⟨none, .store t x y, ty, pos, after, none⟩ ρ L N := by
  intro a w ha hw
  unfold OpA
  rw [if_pos wanted_none]
  have hbw := hw.get hb.mem
  have hlt := blt_lt hoff
  have hcs := cells_one h1
  have hr := run_storeVar_blk (P := S.P) (t := t) (off := off) (v := v) hbw (by rw [hcs]; exact hs) (by rw [hcs]; exact hlt) (by rw [hcs]; simpa using h1)
  have hset : (c.toList.take off ++ v.cells.toList ++ c.toList.drop (off + v.cells.size)).toArray = c' := by
    rw [← hc.eq, hcs]
    apply Array.ext'
    simp only [Array.toList_setIfInBounds]
    rw [List.set_eq_take_append_cons_drop, if_pos (by simpa using hlt)]
    simp
  rw [hset] at hr
  simp only [execOp, ha.ev hx, ha.ev hy, Instr.storeAt, Instr.sureAddr, Sem.run_bind, Sem.run_pure, Result.andThen_ok, hr]
  obtain ⟨s, q, u, e1, e2⟩ := hu.split
  have hw' : Sat S.G (w.setRow b c') L' := by
    rw [e1] at hw
    have hwf := hw.perm List.perm_middle
    have heq : u = .cells c T (0, 0) := by
      have h1 := hwf.blk
      rw [hbw] at h1
      exact (Option.some.inj h1).symm
    subst heq
    rw [e2]
    exact (sat_setRow hwf).perm List.perm_middle.symm
  exact ⟨ρ, L', ha, hw', hn⟩

theorem k_storeAt {t b off : Nat} {c c' : Array Value} {T : TypeId} {x y : Operand} {v : Value} (hx : ev ρ x = some (.pointer (some ⟨b, off, none⟩))) (hy : ev ρ y = some v)
    [hb : Has b (.cells c T (0, 0)) L] [hc : SetC c off v c'] [hu : Upd b (.cells c' T (0, 0)) L L'] (hoff : off < c.size) (h1 : v.oneCell' = true) (hs : sizeT S.P t 1 = true) (hn : N ρ L') :
    OpK S ops ⟨none, .store t x y, ty, pos, after, none⟩ ρ L N := k_store hx hy (by simpa using hoff) h1 hs hn
theorem k_storeAgg {t b off : Nat} {c d : Array Value} {T : TypeId} {x y : Operand} (hx : ev ρ x = some (.pointer (some ⟨b, off, none⟩))) (hy : ev ρ y = some (.agg d))
    [hb : Has b (.cells c T (0, 0)) L] [hu : Upd b (.cells (c.toList.take off ++ d.toList ++ c.toList.drop (off + d.size)).toArray T (0, 0)) L L'] (hoff : off + d.size ≤ c.size) (h1 : ∀ u ∈ d.toList, u.oneCell' = true) (hs : sizeT S.P t d.size = true) (hn : N ρ L') :
    OpK S ops ⟨none, .store t x y, ty, pos, after, none⟩ ρ L N := by
  intro a w ha hw
  unfold OpA
  rw [if_pos wanted_none]
  have hbw := hw.get hb.mem
  have hr := run_storeVar_blk (P := S.P) (t := t) (off := off) (v := .agg d) hbw hs hoff h1
  simp only [execOp, ha.ev hx, ha.ev hy, Instr.storeAt, Instr.sureAddr, Sem.run_bind, Sem.run_pure, Result.andThen_ok, hr]
  obtain ⟨s, q, u, e1, e2⟩ := hu.split
  refine ⟨ρ, L', ha, ?_, hn⟩
  rw [e1] at hw
  have hwf := hw.perm List.perm_middle
  have heq : u = .cells c T (0, 0) := by
    have h1 := hwf.blk
    rw [hbw] at h1
    exact (Option.some.inj h1).symm
  subst heq
  rw [e2]
  exact (sat_setRow hwf).perm List.perm_middle.symm

@[reducible] def zeroT (P : Program) (t : TypeId) (z : Value) : Prop := (P.info? t).bind (·.zero) = some z
theorem run_zeroValue {P : Program} {w : World} {t : TypeId} {z : Value} (h : zeroT P t z) : (zeroValue t).run P w = .ok z w := by
  unfold zeroT at h
  cases hi : P.info? t with
  | none => rw [hi] at h; cases h
  | some i =>
    rw [hi] at h
    simp only [Option.bind_some] at h
    simp [zeroValue, run_typeInfo hi, h]

theorem run_newVar {P : Program} {w : World} {t : TypeId} {v : Value} : (newVar t v).run P w = .ok ⟨w.heap.size, 0, none⟩ { w with heap := w.heap.push (.cells v.cells t) } := rfl

def zeroO (P : Program) (t : TypeId) : Option (Array Value) := ((P.info? t).bind (·.zero)).map Value.cells
theorem zeroO_parts {P : Program} {t : TypeId} {c : Array Value} (h : zeroO P t = some c) : ∃ z, zeroT P t z ∧ z.cells = c := by
  unfold zeroO at h
  cases hz : (P.info? t).bind (·.zero) with
  | none => rw [hz] at h; cases h
  | some z => rw [hz] at h; exact ⟨z, hz, Option.some.inj h⟩
theorem k_alloc {t d : Nat} (c : Array Value) (hz : zeroO S.P t = some c) (hd : Nat.blt d S.n = true)
    (hn : ∀ b, N ((d, .pointer (some ⟨b, 0, none⟩)) :: ρ) (Blk b (.cells c t (0, 0)) :: L)) :
    OpK S ops ⟨some d, .alloc t, ty, pos, after, none⟩ ρ L N := by
  intro a w ha hw
  unfold OpA
  rw [if_pos wanted_none]
  obtain ⟨z, hz', rfl⟩ := zeroO_parts hz
  simp only [execOp, Instr.alloc, Sem.run_bind, run_zeroValue hz', Result.andThen_ok, run_newVar, Sem.run_pure]
  exact ⟨_, _, ha.put (blt_lt hd) _, hw.new _ rfl rfl rfl rfl, hn _⟩

theorem k_box {t d : Nat} {x : Operand} {v : Value} (hx : ev ρ x = some v) (h1 : v.oneCell' = true) (hd : Nat.blt d S.n = true)
    (hn : ∀ b, N ((d, .pointer (some ⟨b, 0, none⟩)) :: ρ) (Blk b (.cells #[v] t (0, 0)) :: L)) :
    OpK S ops ⟨some d, .box t x, ty, pos, after, none⟩ ρ L N := by
  intro a w ha hw
  unfold OpA
  rw [if_pos wanted_none]
  simp only [execOp, ha.ev hx, Instr.box, Sem.run_bind, Result.andThen_ok, run_newVar, Sem.run_pure, cells_one h1]
  exact ⟨_, _, ha.put (blt_lt hd) _, hw.new _ rfl rfl rfl rfl, hn _⟩
theorem k_boxAgg {t d : Nat} {x : Operand} {c : Array Value} (hx : ev ρ x = some (.agg c)) (hd : Nat.blt d S.n = true)
    (hn : ∀ b, N ((d, .pointer (some ⟨b, 0, none⟩)) :: ρ) (Blk b (.cells c t (0, 0)) :: L)) :
    OpK S ops ⟨some d, .box t x, ty, pos, after, none⟩ ρ L N := by
  intro a w ha hw
  unfold OpA
  rw [if_pos wanted_none]
  simp only [execOp, ha.ev hx, Instr.box, Sem.run_bind, Result.andThen_ok, run_newVar, Sem.run_pure]
  exact ⟨_, _, ha.put (blt_lt hd) _, hw.new _ rfl rfl rfl rfl, hn _⟩

/-! ### Structs and slices written out -/
def placesT (P : Program) (t : TypeId) : Option (List (Nat × Nat)) :=
  match P.underlying t with
  | some (.struct fs) => fs.toList.mapM fun f => (P.info? f.type).map fun i => (f.offset, i.size)
  | _ => none
theorem run_mapM_places {P : Program} {w : World} : ∀ {fs : List Field} {ps : List (Nat × Nat)}, (fs.mapM fun f => (P.info? f.type).map fun i => (f.offset, i.size)) = some ps →
    ((fs.mapM fun f => do pure (f.offset, ← sizeOf f.type)) : Sem (List (Nat × Nat))).run P w = .ok ps w
  | [], ps, h => by simp at h; subst h; rfl
  | f :: r, ps, h => by
    rw [List.mapM_cons] at h ⊢
    cases hi : P.info? f.type with
    | none => rw [hi] at h; simp at h
    | some i =>
      rw [hi] at h
      simp only [Option.map_some, Option.bind_eq_bind, Option.bind_some] at h
      cases hr : (r.mapM fun f => (P.info? f.type).map fun i => (f.offset, i.size)) with
      | none => rw [hr] at h; simp at h
      | some qs =>
        rw [hr] at h
        simp at h
        subst h
        have ih := run_mapM_places (w := w) hr
        simp only [Sem.run_bind, sizeOf, run_typeInfo hi, Result.andThen_ok, Sem.run_pure]
        simp only [sizeOf, Sem.run_bind] at ih
        rw [ih]; rfl
theorem ev_build {t : TypeId} {parts : List (Nat × Operand)} {vs : List Value} {z : Value} {ps : List (Nat × Nat)} (cs : Array Value) (hv : evs ρ (parts.map (·.2)) = some vs) (hz : zeroT S.P t z) (hp : placesT S.P t = some ps)
    (hf : Instr.fill (fun i => ps[i]?) z.cells ((parts.map (·.1)).zip vs) = some cs) : Ev S (.build t parts.toArray) ty ρ L (.agg cs) := by
  intro a w _ _ _ _ ha hw
  unfold placesT at hp
  split at hp
  · rename_i fs hu
    have hm : ∀ (parts : List (Nat × Operand)), (parts.map fun (x : Nat × Operand) => (x.1, a.eval x.2)) = (parts.map (·.1)).zip ((parts.map (·.2)).map a.eval) := fun parts => by
      induction parts with
      | nil => rfl
      | cons p r ih => simp [ih]
    have h1 := hm parts
    rw [evs_map ha hv] at h1
    have h2 := run_mapM_places (w := w) hp
    have h3 : ((fs.mapM fun f => do pure (f.offset, ← sizeOf f.type)) : Sem (Array (Nat × Nat))).run S.P w = .ok ps.toArray w := by
      rw [Array.mapM_eq_mapM_toList]
      rw [Sem.run_map, h2]; rfl
    simp only [execOp, Instr.build, Sem.run_bind, run_zeroValue hz, Result.andThen_ok, run_underlying t hu, h3, Sem.run_pure]
    have h4 : (parts.toArray.map fun (x : Nat × Operand) => (x.1, a.eval x.2)).toList = (parts.map (·.1)).zip vs := by
      rw [← h1]; simp
    have h5 : (fun (x : Nat) => ps.toArray[x]?) = fun i => ps[i]? := by funext i; simp
    rw [h4, h5, hf]; rfl
  · cases hp

/-- Cells filled one by one. -/
class Fills (c : Array Value) (offs : List Nat) (vs : List Value) (c' : outParam (Array Value)) : Prop where
  eq : (offs.zip vs).foldl (fun c p => c.setIfInBounds p.1 p.2) c = c'
instance fills0 {c : Array Value} : Fills c [] [] c := ⟨rfl⟩
instance fillsS {c c1 c' : Array Value} {o : Nat} {v : Value} {os : List Nat} {vs : List Value} [h1 : SetC c o v c1] [h2 : Fills c1 os vs c'] : Fills c (o :: os) (v :: vs) c' := ⟨by
  rw [List.zip_cons_cons, List.foldl_cons, h1.eq]; exact h2.eq⟩
/-- The places of parts of one cell. -/
def offsT (P : Program) (t : TypeId) (is : List Nat) : Option (List Nat) :=
  match placesT P t with
  | some ps => is.mapM fun i => match ps[i]? with | some (o, 1) => some o | _ => none
  | none => none
theorem fill_one {ps : List (Nat × Nat)} : ∀ {is offs : List Nat} {vs : List Value} {c : Array Value}, (is.mapM fun i => match ps[i]? with | some (o, 1) => some o | _ => none) = some offs → is.length = vs.length →
    (vs.all (·.oneCell')) = true → (∀ o ∈ offs, o < c.size) → Instr.fill (fun i => ps[i]?) c (is.zip vs) = some ((offs.zip vs).foldl (fun c p => c.setIfInBounds p.1 p.2) c)
  | [], offs, vs, c, h, hl, _, _ => by simp at h; subst h; cases vs <;> simp_all [Instr.fill]
  | i :: is, offs, [], c, h, hl, _, _ => by simp at hl
  | i :: is, offs, v :: vs, c, h, hl, h1, ho => by
    rw [List.mapM_cons] at h
    cases hp : ps[i]? with
    | none => simp [hp] at h
    | some p =>
      obtain ⟨o, sz⟩ := p
      by_cases hs : sz = 1
      · subst hs
        simp only [hp, Option.bind_eq_bind, Option.bind_some] at h
        cases hr : (is.mapM fun i => match ps[i]? with | some (o, 1) => some o | _ => none) with
        | none => rw [hr] at h; simp at h
        | some os =>
          rw [hr] at h
          simp at h; subst h
          simp only [List.all_cons, Bool.and_eq_true] at h1
          have hoc : o < c.size := ho o (by simp)
          simp only [List.zip_cons_cons, Instr.fill, hp, cells_one h1.1, List.foldl_cons]
          have hsz : (#[v] : Array Value).size = 1 := rfl
          rw [if_neg (by simp; omega)]
          have := fill_one (c := c.setIfInBounds o v) hr (by simpa using hl) h1.2 (fun q hq => by simpa using ho q (by simp [hq]))
          simpa using this
      · simp only [hp] at h
        have : (match (o, sz) with | (o, 1) => some o | _ => none : Option Nat) = none := by split <;> simp_all
        simp_all
theorem ev_build1 {t : TypeId} {parts : List (Nat × Operand)} {vs : List Value} {c' : Array Value} (z : List Value) (offs : List Nat) (hz : zeroO S.P t = some z.toArray) (ho : offsT S.P t (parts.map (·.1)) = some offs)
    (hlt : (offs.all fun o => Nat.blt o z.length) = true) (hv : evs ρ (parts.map (·.2)) = some vs) (h1 : (vs.all (·.oneCell')) = true) [hf : Fills z.toArray offs vs c'] : Ev S (.build t parts.toArray) ty ρ L (.agg c') := by
  obtain ⟨zv, hz1, hz2⟩ := zeroO_parts hz
  unfold offsT at ho
  split at ho
  · rename_i ps hp
    have hlen : (parts.map (·.1)).length = vs.length := by
      have : ∀ {l : List Operand} {vs : List Value}, evs ρ l = some vs → l.length = vs.length := by
        intro l
        induction l with
        | nil => intro vs h; simp [evs] at h; simp [h]
        | cons x r ih =>
          intro vs h
          unfold evs at h
          split at h
          · rename_i v l h1 h2; simp at h; subst h; simp [ih h2]
          · cases h
      have := this hv
      simpa using this
    have h3 := fill_one (c := zv.cells) ho hlen h1 (fun o ho' => by rw [hz2]; have := List.all_eq_true.1 hlt o ho'; simpa using this)
    refine ev_build c' hv hz1 hp ?_
    rw [h3, hz2]
    exact congrArg some hf.eq
  · cases ho

/-! ### Calls -/
/-- A function's contract: with these arguments, where this is known, it returns, and 'Q' says what and what is known then. -/
structure Spec (P : Program) (G : World) (f : FuncId) (args : List Value) (L : List HP) (Q : Value → List HP → Prop) : Prop where
  run : ∀ w, Sat G w L → Calls P f args.toArray w fun e w' => ∃ v L', Q v L' ∧ e = .returned v ∧ Sat G w' L'

theorem Spec.mono {P : Program} {G : World} {f : FuncId} {args : List Value} {Q Q' : Value → List HP → Prop} (h : Spec P G f args L Q) (hq : ∀ v L', Q v L' → Q' v L') : Spec P G f args L Q' :=
  ⟨fun w hw => (h.run w hw).mono fun _ _ ⟨v, L', q, r⟩ => ⟨v, L', hq v L' q, r⟩⟩
theorem Spec.perm {P : Program} {G : World} {f : FuncId} {args : List Value} {Q : Value → List HP → Prop} (p : L.Perm L') (h : Spec P G f args L' Q) : Spec P G f args L Q := ⟨fun w hw => h.run w (hw.perm p)⟩
theorem Spec.mem {P : Program} {G : World} {f : FuncId} {args : List Value} {Q : Value → List HP → Prop} (p : ∀ w, Sat G w L → Sat G w L') (h : Spec P G f args L' Q) : Spec P G f args L Q := ⟨fun w hw => h.run w (p w hw)⟩

def bodyT (P : Program) (f : FuncId) : Bool :=
  match P.funcs[f]? with
  | some fn => fn.body.isSome && !(fn.name == "runtime.NumGoroutine")
  | none => false
theorem run_callFunc {P : Program} {w : World} {f : FuncId} (h : bodyT P f = true) (args : Array Value) : (callFunc f args).run P w = .ok (.enter f args) w := by
  unfold bodyT at h
  cases hf : P.funcs[f]? with
  | none => rw [hf] at h; cases h
  | some fn =>
    rw [hf] at h
    simp only [Bool.and_eq_true, Bool.not_eq_true'] at h
    have hb : fn.body.isNone = false := by cases hx : fn.body with
      | none => rw [hx] at h; cases h.1
      | some _ => rfl
    have hne : ¬ fn.name = "runtime.NumGoroutine" := by simpa using h.2
    have hbn : ¬ fn.body = none := fun e => by rw [e] at hb; cases hb
    simp [callFunc, program, Sem.run, hf, hne, hbn]

theorem upon_call {o : Oper} {a : Act} {w : World} {f : FuncId} {vs : List Value} {d : Nat} {Q : Value → List HP → Prop} (ho : o.dst = some d) (hd : d < S.n) (ha : Agr a S.n S.ds ρ) (hw : Sat S.G w L)
    (h : Spec S.P S.G f vs L Q) (hn : ∀ v L', Q v L' → N ((d, v) :: ρ) L') :
    UponA S o a (fun a' w' => ∃ ρ' L', Agr a' S.n S.ds ρ' ∧ Sat S.G w' L' ∧ N ρ' L') (.ok (.enter f vs.toArray) w) := by
  unfold UponA
  refine (h.run w hw).mono ?_
  rintro e w' ⟨v, L', hq, rfl, hw'⟩
  rw [ho]
  exact ⟨_, L', ha.put hd v, hw', hn v L' hq⟩

theorem k_call {f : FuncId} {args : List Operand} {ts : Array TypeId} {vs : List Value} {d : Nat} {Q : Value → List HP → Prop} (hv : evs ρ args = some vs) (hd : Nat.blt d S.n = true) (hb : bodyT S.P f = true)
    (h : Spec S.P S.G f vs L Q) (hn : ∀ v L', Q v L' → N ((d, v) :: ρ) L') :
    OpK S ops ⟨some d, .call { callee := .value (.func f), args := args.toArray, argTypes := ts }, ty, pos, after, none⟩ ρ L N := by
  intro a w ha hw
  unfold OpA
  rw [if_pos wanted_none]
  have e : args.toArray.map a.eval = vs.toArray := Array.ext' (by simpa using evs_map ha hv)
  simp only [execOp, resolve, e, Act.eval, Deferred.ofValue, Sem.run_bind, Sem.run_pure, Result.andThen_ok, invoke]
  rw [show (#[] ++ vs.toArray ++ #[] : Array Value) = vs.toArray by simp, run_callFunc hb]
  exact upon_call rfl (blt_lt hd) ha hw h hn
/-- .. of a function value. -/
theorem k_callV {f : FuncId} {x : Operand} {args : List Operand} {ts : Array TypeId} {us vs cap : List Value} {d : Nat} {Q : Value → List HP → Prop} (hx : ev ρ x = some (.func (.func f) us.toArray cap.toArray)) (hv : evs ρ args = some vs) (hd : Nat.blt d S.n = true) (hb : bodyT S.P f = true)
    (h : Spec S.P S.G f (us ++ vs ++ cap) L Q) (hn : ∀ v L', Q v L' → N ((d, v) :: ρ) L') :
    OpK S ops ⟨some d, .call { callee := .value x, args := args.toArray, argTypes := ts }, ty, pos, after, none⟩ ρ L N := by
  intro a w ha hw
  unfold OpA
  rw [if_pos wanted_none]
  have e : args.toArray.map a.eval = vs.toArray := Array.ext' (by simpa using evs_map ha hv)
  simp only [execOp, resolve, e, ha.ev hx, Deferred.ofValue, Sem.run_bind, Sem.run_pure, Result.andThen_ok, invoke]
  rw [show (us.toArray ++ vs.toArray ++ cap.toArray : Array Value) = (us ++ vs ++ cap).toArray by simp, run_callFunc hb]
  exact upon_call rfl (blt_lt hd) ha hw h hn

/-! ### Into a function and out of it -/
def argEnv : Nat → List Value → Env
  | _, [] => []
  | i, v :: r => (i, v) :: argEnv (i + 1) r
theorem look_argEnv : ∀ (l : List Value) (i t : Nat) (v : Value), look (argEnv i l) t = some v → i ≤ t ∧ l[t - i]? = some v
  | [], _, _, _, h => by cases h
  | x :: r, i, t, v, h => by
    unfold argEnv at h
    rw [look_cons] at h
    by_cases e : i = t
    · subst e; rw [if_pos rfl] at h; exact ⟨Nat.le_refl _, by simpa using h⟩
    · rw [if_neg e] at h
      obtain ⟨h1, h2⟩ := look_argEnv r (i + 1) t v h
      refine ⟨by omega, ?_⟩
      rw [show t - i = (t - (i + 1)) + 1 by omega, List.getElem?_cons_succ]
      exact h2
theorem agr_args {l : List Value} {n : Nat} (h : l.length ≤ n) : Agr { tmps := l.toArray ++ Array.replicate (n - l.toArray.size) undef, defers := [] } n [] (argEnv 0 l) := by
  refine ⟨by simp; omega, rfl, fun t v ht => ?_⟩
  obtain ⟨_, h2⟩ := look_argEnv l 0 t v ht
  simp only [Nat.sub_zero] at h2
  have hlt : t < l.length := (List.getElem?_eq_some_iff.1 h2).1
  rw [Array.getD_eq_getD_getElem?, Array.getElem?_append_left (by simpa using hlt)]
  simp [h2]

theorem spec_of_run {P : Program} {G : World} {f : FuncId} {fn : Func} {c : Code} {args : List Value} {Q : Value → List HP → Prop} (hf : P.funcs[f]? = some fn) (hb : fn.body = some c) (hl : Nat.ble args.length fn.ntmps = true)
    (h : Run ⟨P, G, .fn f (fun e w' => ∃ v L', Q v L' ∧ e = .returned v ∧ Sat G w' L'), fn.ntmps, []⟩ [.code c] (argEnv 0 args) L) : Spec P G f args L Q := by
  refine ⟨fun w hw cs => ?_⟩
  let b : Frame := { (default : Frame) with fn := f, kind := .normal, roundOf := none }
  have henter : Frame.enter P f args.toArray .normal =
      b.atR { tmps := args.toArray ++ Array.replicate (fn.ntmps - args.toArray.size) undef, defers := [] } [.code c] := by
    simp [Frame.enter, Frame.atR, hf, hb, b]
  obtain ⟨m', ⟨e, w', fr, hR, hne, rfl, hfn, hl'⟩, hs⟩ := h _ w (agr_args (by simpa using hl)) hw b cs ⟨rfl, rfl, rfl⟩
  refine ⟨e, w', fr, hR, ?_, hfn, hl'⟩
  rw [henter]
  cases e with
  | returned v => exact hs
  | panicked ch => exact hs
  | outgrown => exact absurd rfl hne

theorem run_results {P : Program} {a : Act} {n : Nat} {ds : List Deferred} {w : World} {fn : Func} {rs : List ResultVar} (ha : Agr a n ds ρ) (hr : fn.results = rs.toArray) : ∀ {vs : List Value}, resOf ρ rs = some vs → (results fn a.tmps).run P w = .ok (packed vs) w := by
  intro vs hv
  have key : ∀ (rs : List ResultVar) (vs : List Value), resOf ρ rs = some vs →
      ((rs.mapM fun | .tmp t => pure (a.tmps.getD t undef) | .cell x t => do loadVar t (← asAddr (a.tmps.getD x undef))) : Sem (List Value)).run P w = .ok vs w := by
    intro rs
    induction rs with
    | nil => intro vs h; simp [resOf] at h; subst h; rfl
    | cons r rs ih =>
      intro vs h
      cases r with
      | cell x t => cases h
      | tmp t =>
        unfold resOf at h
        split at h
        · rename_i v l h1 h2
          simp at h; subst h
          rw [List.mapM_cons]
          simp only [Sem.run_bind, Sem.run_pure, Result.andThen_ok, ha.at_ t v h1]
          rw [ih l h2]; rfl
        · cases h
  unfold results
  rw [hr, Array.mapM_eq_mapM_toList]
  simp only [Sem.run_bind, Sem.run_map]
  refine Eq.trans (congrArg (fun (r : Result (List Value)) => (r.andThen _).andThen _) (key rs vs hv)) ?_
  simp only [Result.andThen_ok, Sem.run_pure]
  match vs with
  | [] => rfl
  | [v] => rfl
  | _ :: _ :: _ => rfl

section
variable {P : Program} {G : World} {f : FuncId} {n : Nat} {R : Ending → World → Prop} {ks : List Item}
theorem leave_ret {fn : Func} {rs : List ResultVar} {vs : List Value} (hf : P.funcs[f]? = some fn) (hr : fn.results = rs.toArray) (hv : resOf ρ rs = some vs) (hR : ∀ w, Sat G w L → R (.returned (packed vs)) w)
    {a : Act} {w : World} (ha : Agr a n [] ρ) (hw : Sat G w L) {b : Frame} {cs : List Frame} (hk : (Kont.fn f R).ok b cs) (ks : List Item) : (Kont.fn f R).Done P cs (lone { b.atR a ks with mode := .returning } cs w) := by
  obtain ⟨e1, e2, e3⟩ := hk
  refine ⟨.returned (packed vs), w, _, hR w hw, (fun h => by cases h), rfl, e1, rfl, ha.ds, e2, fn, ?_, ?_⟩
  · show P.funcs[b.fn]? = some fn
    rw [e1]; exact hf
  · exact run_results ha hr hv
theorem run_ret {fn : Func} {rs : List ResultVar} {vs : List Value} (hf : P.funcs[f]? = some fn) (hr : fn.results = rs.toArray) (hv : resOf ρ rs = some vs) (hR : ∀ w, Sat G w L → R (.returned (packed vs)) w) :
    Run ⟨P, G, .fn f R, n, []⟩ (.code .ret :: ks) ρ L := fun _ _ ha hw _ _ hk =>
  ⟨_, leave_ret hf hr hv hR ha hw hk _, .one (stepR_ret hk.2.2)⟩
theorem run_end {fn : Func} {rs : List ResultVar} {vs : List Value} (hf : P.funcs[f]? = some fn) (hr : fn.results = rs.toArray) (hv : resOf ρ rs = some vs) (hR : ∀ w, Sat G w L → R (.returned (packed vs)) w) :
    Run ⟨P, G, .fn f R, n, []⟩ [] ρ L := fun _ _ ha hw _ _ hk =>
  ⟨_, leave_ret hf hr hv hR ha hw hk _, .one (stepR_end hk.2.2)⟩
/-- The two for a contract. -/
theorem ret_spec {fn : Func} {rs : List ResultVar} {vs : List Value} {Q : Value → List HP → Prop} (hf : P.funcs[f]? = some fn) (hr : fn.results = rs.toArray) (hv : resOf ρ rs = some vs) (hQ : Q (packed vs) L) :
    Run ⟨P, G, .fn f (fun e w' => ∃ v L', Q v L' ∧ e = .returned v ∧ Sat G w' L'), n, []⟩ (.code .ret :: ks) ρ L := run_ret hf hr hv fun _ hw => ⟨_, L, hQ, rfl, hw⟩
theorem end_spec {fn : Func} {rs : List ResultVar} {vs : List Value} {Q : Value → List HP → Prop} (hf : P.funcs[f]? = some fn) (hr : fn.results = rs.toArray) (hv : resOf ρ rs = some vs) (hQ : Q (packed vs) L) :
    Run ⟨P, G, .fn f (fun e w' => ∃ v L', Q v L' ∧ e = .returned v ∧ Sat G w' L'), n, []⟩ [] ρ L := run_end hf hr hv fun _ hw => ⟨_, L, hQ, rfl, hw⟩
end
end
end Go.PS
