/-
  Rows that are ours, written element by element; more rules for slices.
  Conditions: each rule's own.
-/
import Derived.Test.YtopkabhgkhjecaaGreatOwnR
import Derived.Lib.SliceRun
namespace Go.PS
open Go

theorem row_set {α : Type} {enc : α → List Value} {k : Nat} (hk : ∀ x, (enc x).length = k) {zs : List α} {rest : List Value} {i : Nat} (z : α) (hi : i < zs.length) :
    ((zs.flatMap enc ++ rest).toArray.toList.take (i * k) ++ (enc z).toArray.toList ++ (zs.flatMap enc ++ rest).toArray.toList.drop (i * k + (enc z).toArray.size)).toArray = ((zs.set i z).flatMap enc ++ rest).toArray := by
  have hlen := flatMap_len hk
  have e0 : zs = zs.take i ++ zs[i] :: zs.drop (i + 1) := by rw [List.getElem_cons_drop, List.take_append_drop]
  have e1 : zs.flatMap enc = (zs.take i).flatMap enc ++ (enc zs[i] ++ (zs.drop (i + 1)).flatMap enc) := by
    conv => lhs; rw [e0]
    rw [List.flatMap_append, List.flatMap_cons]
  have e2 : (zs.set i z).flatMap enc = (zs.take i).flatMap enc ++ (enc z ++ (zs.drop (i + 1)).flatMap enc) := by
    rw [List.set_eq_take_append_cons_drop, if_pos hi, List.flatMap_append, List.flatMap_cons]
  have h1 : ((zs.take i).flatMap enc).length = i * k := by rw [hlen, List.length_take, Nat.min_eq_left (by omega)]
  rw [e2, e1]
  congr 1
  simp only [List.size_toArray, hk]
  generalize (zs.take i).flatMap enc = A at *
  generalize (zs.drop (i + 1)).flatMap enc = Cc at *
  have t1 : List.take (i * k) (A ++ (enc zs[i] ++ Cc) ++ rest) = A := by rw [List.append_assoc]; exact List.take_left' h1
  have t2 : List.drop (i * k + k) (A ++ (enc zs[i] ++ Cc) ++ rest) = Cc ++ rest := by
    rw [show A ++ (enc zs[i] ++ Cc) ++ rest = (A ++ enc zs[i]) ++ (Cc ++ rest) by simp]
    exact List.drop_left' (by simp [h1, hk])
  rw [t1, t2]
  simp
theorem row_get {α : Type} {enc : α → List Value} {zs : List α} {rest : List Value} : ∀ i, i < (zs.flatMap enc).length → (zs.flatMap enc ++ rest).toArray[i]? = (zs.flatMap enc)[i]? := fun i hi => by simp [List.getElem?_append_left hi]

section
variable {S : Setup} {ρ : Env} {L L' : List HP} {ty : TypeId} {ops : Array Oper} {pos : String} {after : Array Edge} {N : Env → List HP → Prop}

theorem ev_slice3 {x lo hi mx : Operand} {t e : TypeId} {q : Option Addr} {n m l h c : Nat} {k1 k2 k3 : IntKind} (sz : Nat) (hx : ev ρ x = some (.slice q n m)) (hl : ev ρ lo = some (.int k1 l)) (hh : ev ρ hi = some (.int k2 h)) (hc : ev ρ mx = some (.int k3 c))
    (h1 : l ≤ h) (h2 : h ≤ c) (h3 : c ≤ m) (ht : sliceT S.P t e = true) (hs : sizeT S.P e sz = true) :
    Ev S (.slice t x (some lo) (some hi) (some mx)) ty ρ L (.slice (if c = l then q else q.map (·.add (l * sz))) (h - l) (c - l)) := by
  intro a w _ _ _ _ ha hw
  simp [execOp, ha.ev hx, ha.ev hl, ha.ev hh, ha.ev hc, Instr.sliceAt, Instr.slice, Instr.sliceBounds, Instr.sliceBound, asIntOf, run_underlying t (sliceT_eq ht), run_sizeOf hs, h1, h2, h3]

theorem ev_eqSliceNil {x y : Operand} {t e : TypeId} {a : Option Addr} {n c n' c' : Nat} {t' : TypeId} (hx : ev ρ x = some (.slice a n c)) (hy : ev ρ y = some (.slice none n' c')) (ht : sliceT S.P t e = true) : Ev S (.binOp .eql t x y t') ty ρ L (.bool a.isNone) :=
  ev_bin hx hy (fun _ h => by cases h) (fun h => by cases h) fun w => Lib.run_eql_slice_nil w _ _ a n c n' c' (sliceT_eq ht)

theorem k_buildSlice0 {t e d B : Nat} {z : Array Value} (hT : ElemT S.P t e z B) (hd : Nat.blt d S.n = true) (hn : ∀ b, N ((d, .slice (some ⟨b, 0, none⟩) 0 0) :: ρ) (Blk b (.cells #[] e (0, 0)) :: L)) :
    OpK S ops ⟨some d, .buildSlice t 0 #[], ty, pos, after, none⟩ ρ L N := by
  intro a w ha hw
  unfold OpA
  rw [if_pos wanted_none]
  have hr : (execOp a.eval ⟨some d, .buildSlice t 0 #[], ty, pos, after, none⟩).run S.P w = .ok (.value (.slice (some ⟨w.heap.size, 0, none⟩) 0 0)) { w with heap := w.heap.push (.cells #[] e) } := by
    have h1 : (Instr.buildSlice t 0 #[]).run S.P w = .ok (.slice (some ⟨w.heap.size, 0, none⟩) 0 0) { w with heap := w.heap.push (.cells #[] e) } := by
      unfold Instr.buildSlice
      simp only [Sem.run_bind, run_underlying t (sliceT_eq hT.sl), Result.andThen_ok, run_sizeOf hT.size, Nat.zero_mul]
      rw [if_neg (by simp)]
      simp only [if_true, Sem.run_bind, Sem.run_pure, Result.andThen_ok, Instr.fill]
      have e0 : ∀ f : Nat → Value, Array.map f (Array.range 0) = #[] := fun f => by simp
      rw [e0]
      rfl
    simp [execOp, h1]
  rw [hr]
  exact ⟨_, _, ha.put (blt_lt hd) _, hw.new _ rfl rfl rfl rfl, hn _⟩

/-- An append that fits, of cells that may lie in the same block. -/
theorem k_appendFit {t e d n m cap mc b b2 off2 B : Nat} {x y : Operand} {C D : Array Value} {ts : Array TypeId} {z : Array Value} (t2 : TypeId) (hx : ev ρ x = some (.slice (some ⟨b, 0, none⟩) n cap)) (hy : ev ρ y = some (.slice (some ⟨b2, off2, none⟩) m mc))
    [hb : Has b (.cells C e (0, 0)) L] [hr : Reads S.G L b2 D] [hu : Upd b (.cells (C.toList.take (n * z.size) ++ (D.extract off2 (off2 + m * z.size)).toList ++ C.toList.drop (n * z.size + m * z.size)).toArray e (0, 0)) L L'] (hT : ElemT S.P t e z B)
    (ht : ts = #[t, t2]) (hint : (match S.P.underlying t2 with | some (.int _) | none => false | _ => true) = true) (hfit : n + m ≤ cap) (hC : C.size = cap * z.size) (hD : off2 + m * z.size ≤ D.size) (h1 : ∀ q ∈ (D.extract off2 (off2 + m * z.size)).toList, q.oneCell' = true) (hB0 : B ≠ 0) (hB : B * (2 * (n + m) + 2000) ≤ 281474976710656) (hd : Nat.blt d S.n = true)
    (hn : N ((d, .slice (some ⟨b, 0, none⟩) (n + m) cap) :: ρ) L') :
    OpK S ops ⟨some d, .call { callee := .builtin .append, args := #[x, y], argTypes := ts }, ty, pos, after, none⟩ ρ L N := by
  intro a w ha hw
  unfold OpA
  rw [if_pos wanted_none]
  subst ht
  have hint' : ∃ dsc, S.P.underlying t2 = some dsc ∧ (∀ k, dsc ≠ .int k) := by
    cases hu : S.P.underlying t2 with
    | none => rw [hu] at hint; cases hint
    | some dsc => exact ⟨dsc, rfl, fun k hk => by rw [hu, hk] at hint; cases hint⟩
  obtain ⟨dsc, hu2, hnint⟩ := hint'
  obtain ⟨T, fz, hb2⟩ := hr.read w hw
  have hnew : (Builtin.firstCells z.size m (.slice (some ⟨b2, off2, none⟩) m mc)).run S.P w = .ok (D.extract off2 (off2 + m * z.size)) w := run_loadCells_blk hb2 hD
  have hrun := run_append (P := S.P) (w := w) (t := t) (t2 := t2) (ty := ty) (sCap := cap) (base := some ⟨b, 0, none⟩) (sLen := n) hT hu2 hnint (u := .slice (some ⟨b2, off2, none⟩) m mc) (m := m) rfl hnew hB0 hB
  have hexec : (execOp a.eval ⟨some d, .call { callee := .builtin .append, args := #[x, y], argTypes := #[t, t2] }, ty, pos, after, none⟩).run S.P w = ((Builtin.append_ #[t, t2] ty #[.slice (some ⟨b, 0, none⟩) n cap, .slice (some ⟨b2, off2, none⟩) m mc]).run S.P w).andThen fun v w' => .ok (.value v) w' := by
    simp [execOp, resolve, ha.ev hx, ha.ev hy, invoke, builtin]
  rw [hexec, hrun, if_pos hfit]
  clear hexec hrun
  have hbw := hw.get hb.mem
  have hle : n * z.size + m * z.size ≤ cap * z.size := by rw [← Nat.add_mul]; exact Nat.mul_le_mul_right _ hfit
  have hext : (D.extract off2 (off2 + m * z.size)).toList.length = m * z.size := by simp; omega
  have hst := run_storeCells_at (P := S.P) b (n * z.size) e (D.extract off2 (off2 + m * z.size)).toList 0 C w hbw (by rw [hext]; omega) h1
  simp only [add_off, Nat.zero_add, Nat.add_zero, hst, Result.andThen_ok]
  rw [hext]
  obtain ⟨s, q, u, e1, e2⟩ := hu.split
  refine ⟨_, L', ha.put (blt_lt hd) _, ?_, hn⟩
  rw [e1] at hw
  have hwf := hw.perm List.perm_middle
  have heq : u = .cells C e (0, 0) := by
    have h1 := hwf.blk
    rw [hbw] at h1
    exact (Option.some.inj h1).symm
  subst heq
  rw [e2]
  exact (sat_setRow hwf).perm List.perm_middle.symm

/-- A row's part is cleared. -/
theorem k_clearSl {t e n m b off B : Nat} {x : Operand} {C : Array Value} {z : Array Value} (hx : ev ρ x = some (.slice (some ⟨b, off, none⟩) n m)) [hb : Has b (.cells C e (0, 0)) L] (hT : ElemT S.P t e z B) (hC : off + n * z.size ≤ C.size) (h1 : z.toList.all (·.oneCell') = true)
    (hn : ∀ D : List Value, D.length = n * z.size → ∃ L', (∃ s t u, L = s ++ Blk b u :: t ∧ L' = s ++ Blk b (.cells (C.toList.take off ++ D ++ C.toList.drop (off + n * z.size)).toArray e (0, 0)) :: t) ∧ N ρ L') :
    OpK S ops ⟨none, .call { callee := .builtin .clear, args := #[x], argTypes := #[t] }, ty, pos, after, none⟩ ρ L N := by
  intro a w ha hw
  unfold OpA
  rw [if_pos wanted_none]
  obtain ⟨i, vz, hi, hB, hS, hz, hcells⟩ := hT.info
  have hzv : zeroT S.P e vz := by unfold zeroT; rw [hi]; exact hz
  have hbw := hw.get hb.mem
  have hzl : (Builtin.zeroCells z n).toList.length = n * z.size := by simp [Builtin.zeroCells]
  have hexec : ∀ w', (Builtin.clear_ #[t] ty #[.slice (some ⟨b, off, none⟩) n m]).run S.P w = .ok (.tuple #[]) w' → (execOp a.eval ⟨none, .call { callee := .builtin .clear, args := #[x], argTypes := #[t] }, ty, pos, after, none⟩).run S.P w = .ok (.value (.tuple #[])) w' := by
    intro w' h
    simp [execOp, resolve, ha.ev hx, invoke, builtin, h]
  obtain ⟨L', ⟨s, q, u, e1, e2⟩, hN⟩ := hn (Builtin.zeroCells z n).toList hzl
  have hzero : ∀ u ∈ (Builtin.zeroCells z n).toList, u.oneCell' = true := by
    intro u hu
    have : u ∈ z.toList ∨ u = default := by
      simp only [Builtin.zeroCells, Array.toList_map, Array.toList_range, List.mem_map, List.mem_range] at hu
      obtain ⟨j, hj, rfl⟩ := hu
      by_cases h : j % z.size < z.size
      · left; rw [getElem!_pos z _ h]; simp
      · right; rw [getElem!_neg z _ h]
    rcases this with h | h
    · exact List.all_eq_true.1 h1 u h
    · subst h
      rcases Nat.eq_zero_or_pos z.size with h0 | h0
      · rw [show Builtin.zeroCells z n = #[] by unfold Builtin.zeroCells; rw [h0]; simp] at hu; cases hu
      · rfl
  have hst := run_storeCells_at (P := S.P) b off e (Builtin.zeroCells z n).toList 0 C w hbw (by rw [hzl]; omega) hzero
  rw [hzl, Nat.add_zero] at hst
  rcases Nat.eq_zero_or_pos n with h0 | h0
  · have hr : (Builtin.clear_ #[t] ty #[.slice (some ⟨b, off, none⟩) n m]).run S.P w = .ok (.tuple #[]) w := by
      subst h0
      unfold Builtin.clear_
      simp only [List.getElem?_toArray, List.getElem?_cons_zero, Sem.run_bind, run_underlying t (sliceT_eq hT.sl), Result.andThen_ok, Sem.run_pure]
    rw [hexec w hr]
    refine ⟨ρ, L', ha, ?_, hN⟩
    have hsame : (C.toList.take off ++ (Builtin.zeroCells z n).toList ++ C.toList.drop (off + n * z.size)).toArray = C := by
      subst h0
      have : Builtin.zeroCells z 0 = #[] := by simp [Builtin.zeroCells]
      rw [this]; simp
    rw [e2, hsame]
    rw [e1] at hw
    have hwf := hw.perm List.perm_middle
    have heq : u = .cells C e (0, 0) := by
      have h1 := hwf.blk
      rw [hbw] at h1
      exact (Option.some.inj h1).symm
    rw [heq] at hw
    exact hw
  · have hr : (Builtin.clear_ #[t] ty #[.slice (some ⟨b, off, none⟩) n m]).run S.P w = .ok (.tuple #[]) (w.setRow b (C.toList.take off ++ (Builtin.zeroCells z n).toList ++ C.toList.drop (off + n * z.size)).toArray) := by
      unfold Builtin.clear_
      simp only [List.getElem?_toArray, List.getElem?_cons_zero, Sem.run_bind, run_underlying t (sliceT_eq hT.sl), Result.andThen_ok]
      obtain ⟨n', rfl⟩ : ∃ n', n = n' + 1 := ⟨n - 1, by omega⟩
      simp only [Sem.run_bind, run_zeroValue hzv, Result.andThen_ok, hcells, Sem.run_pure]
      rw [hst]
      rfl
    rw [hexec _ hr]
    refine ⟨ρ, L', ha, ?_, hN⟩
    rw [e1] at hw
    have hwf := hw.perm List.perm_middle
    have heq : u = .cells C e (0, 0) := by
      have h1 := hwf.blk
      rw [hbw] at h1
      exact (Option.some.inj h1).symm
    subst heq
    rw [e2]
    exact (sat_setRow hwf).perm List.perm_middle.symm
end
theorem spec_own {P : Program} {G : World} {f : FuncId} {e sz n : Nat} {v : Value} {X : List Value} {L : List HP} {Q : Value → List HP → Prop} (args : Value → List Value) (hnil : n = 0 → X = [] → Spec P G f (args (.slice none 0 0)) L Q)
    (hblk : ∀ b cap rest, n ≤ cap → X.length = n * sz → (X ++ rest).length = cap * sz → Spec P G f (args (.slice (some ⟨b, 0, none⟩) n cap)) (Blk b (.cells (X ++ rest).toArray e (0, 0)) :: L) Q) : Spec P G f (args v) (OwnSl e sz n v X :: L) Q := by
  refine ⟨fun w hw => ?_⟩
  rcases sat_ownCases hw with ⟨h1, h2, h3, h4⟩ | ⟨b, cap, rest, h1, h2, h3, h4, h5⟩
  · subst h1
    exact (hnil h2 h3).run w h4
  · subst h1
    exact (hblk b cap rest h2 h3 h4).run w h5
end Go.PS
