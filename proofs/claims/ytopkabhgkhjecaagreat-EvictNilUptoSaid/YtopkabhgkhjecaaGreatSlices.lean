/-
  Slices made, appended to, copied: what becomes of what is known.
  Conditions: each lemma's own.
-/
import Derived.Test.YtopkabhgkhjecaaGreatQuiet
namespace Go.PS
open Go

section
variable {S : Setup} {ρ : Env} {L L' : List HP} {ty : TypeId} {ops : Array Oper} {pos : String} {after : Array Edge} {N : Env → List HP → Prop}

def bytesT (P : Program) (t : TypeId) (n : Nat) : Bool := ((P.info? t).map (·.bytes)) == some n
/-- What is asked of an element's type: its cells at zero, its bytes. -/
structure ElemT (P : Program) (t e : TypeId) (z : Array Value) (B : Nat) : Prop where
  sl : sliceT P t e = true
  zero : zeroO P e = some z
  size : sizeT P e z.size = true
  bytes : bytesT P e B = true
theorem ElemT.info {P : Program} {t e : TypeId} {z : Array Value} {B : Nat} (h : ElemT P t e z B) : ∃ i v, P.info? e = some i ∧ i.bytes = B ∧ i.size = z.size ∧ i.zero = some v ∧ v.cells = z := by
  obtain ⟨v, hv, hc⟩ := zeroO_parts h.zero
  have h1 := h.size
  have h2 := h.bytes
  unfold sizeT at h1
  unfold bytesT at h2
  unfold zeroT at hv
  cases hi : P.info? e with
  | none => rw [hi] at hv; cases hv
  | some i =>
    rw [hi] at h1 h2 hv
    simp at h1 h2 hv
    exact ⟨i, v, rfl, h2, h1, hv, hc⟩

theorem k_makeSlice {t e d : Nat} {x y : Operand} {l c : Nat} {li ci : Int} {z : Array Value} {B : Nat} (hx : ev ρ x = some (.int .i64 li)) (hy : ev ρ y = some (.int .i64 ci)) (hli : li = l) (hci : ci = c) (hlc : l ≤ c) (hT : ElemT S.P t e z B) (hb : B * c ≤ 281474976710656) (hc : c ≤ 9223372036854775807) (hd : Nat.blt d S.n = true)
    (hn : ∀ b, N ((d, .slice (some ⟨b, 0, none⟩) l c) :: ρ) (Blk b (.cells (Builtin.zeroCells z c) e (0, 0)) :: L)) :
    OpK S ops ⟨some d, .makeSlice t x y, ty, pos, after, none⟩ ρ L N := by
  subst hli; subst hci
  intro a w ha hw
  unfold OpA
  rw [if_pos wanted_none]
  obtain ⟨i, v, hi, hB, hS, hz, hcells⟩ := hT.info
  have hzv : zeroT S.P e v := by unfold zeroT; rw [hi]; exact hz
  have w1 : IntKind.i64.wrap (l : Int) = l := wrap_in (by omega)
  have w2 : IntKind.i64.wrap (c : Int) = c := wrap_in (by omega)
  have hbc : ¬ ((B : Int) * c > 281474976710656) := by have : ((B * c : Nat) : Int) ≤ 281474976710656 := by omega
                                                       rw [Int.natCast_mul] at this; omega
  have hrun : (Instr.makeSlice t (a.eval x) (a.eval y)).run S.P w = .ok (.slice (some ⟨w.heap.size, 0, none⟩) l c) { w with heap := w.heap.push (.cells (Builtin.zeroCells z c) e) } := by
    unfold Instr.makeSlice
    have hcond : ((decide ((c : Int) < 0) || decide ((B : Int) * c > 281474976710656)) || decide ((l : Int) < 0) || decide ((l : Int) > c)) = false := by
      simp only [Bool.or_eq_false_iff, decide_eq_false_iff_not]
      refine ⟨⟨⟨by omega, hbc⟩, by omega⟩, by omega⟩
    have hroom : ∀ n, (askRoom n).run S.P w = .ok () w := by
      intro n; unfold askRoom; split <;> rfl
    have hasI : ∀ (n : Int), (asInt (.int .i64 n)).run S.P w = .ok n w := fun _ => rfl
    simp only [ha.ev hx, ha.ev hy, Sem.run_bind, run_underlying t (sliceT_eq hT.sl), hasI, Result.andThen_ok, run_typeInfo hi, hB, w1, w2]
    have h48 : ((2 : Int) ^ 48) = 281474976710656 := by decide
    rw [h48, if_neg (by rw [hcond]; simp)]
    simp only [Sem.run_bind, hroom, Result.andThen_ok, run_sizeOf hT.size, Int.toNat_natCast]
    by_cases h0 : c * z.size = 0
    · have e0 : Builtin.zeroCells z c = #[] := by unfold Builtin.zeroCells; rw [h0]; simp
      rw [if_pos h0, h0, e0]
      simp only [Sem.run_bind, Sem.run_pure, Result.andThen_ok]
      have e1 : ∀ f : Nat → Value, Array.map f (Array.range 0) = #[] := fun f => by simp
      rw [e1]; rfl
    · rw [if_neg h0]
      simp only [Sem.run_bind, run_zeroValue hzv, Result.andThen_ok, Sem.run_pure, hcells]
      rfl
  simp only [execOp, Sem.run_bind, hrun, Result.andThen_ok, Sem.run_pure]
  exact ⟨_, _, ha.put (blt_lt hd) _, hw.new _ rfl rfl rfl rfl, hn _⟩
theorem zeroCells_one (z : Value) (n : Nat) : Builtin.zeroCells #[z] n = Array.replicate n z := by
  apply Array.ext'
  unfold Builtin.zeroCells
  simp only [List.size_toArray, List.length_cons, List.length_nil, Nat.mul_one, Nat.zero_add, Array.toList_map, Array.toList_range, Array.toList_replicate]
  apply List.ext_getElem
  · simp
  · intro i h1 h2
    simp [Nat.mod_one]
theorem k_makeSlice1 {t e d : Nat} {x y : Operand} {c : Nat} {li ci : Int} {B : Nat} (z : Value) (hx : ev ρ x = some (.int .i64 li)) (hy : ev ρ y = some (.int .i64 ci)) (hli : li = c) (hci : ci = c) (hT : ElemT S.P t e #[z] B) (hb : B * c ≤ 281474976710656) (hc : c ≤ 9223372036854775807) (hd : Nat.blt d S.n = true)
    (hn : ∀ b, N ((d, .slice (some ⟨b, 0, none⟩) c c) :: ρ) (Blk b (.cells (Array.replicate c z) e (0, 0)) :: L)) :
    OpK S ops ⟨some d, .makeSlice t x y, ty, pos, after, none⟩ ρ L N := by
  refine k_makeSlice hx hy hli hci (Nat.le_refl _) hT hb hc hd ?_
  rw [zeroCells_one]
  exact hn

/-! ### Slices that are grown -/
/-- A slice of 'n' elements of 'sz' cells of type 'e' that is ours, with whatever room behind: its cells are 'xs'. -/
def OwnSl (e sz n : Nat) (v : Value) (xs : List Value) : HP := fun h =>
  (v = .slice none 0 0 ∧ n = 0 ∧ xs = [] ∧ ∀ i, h i = none) ∨
  (∃ b cap rest, v = .slice (some ⟨b, 0, none⟩) n cap ∧ n ≤ cap ∧ xs.length = n * sz ∧ (xs ++ rest).length = cap * sz ∧ Blk b (.cells (xs ++ rest).toArray e (0, 0)) h)
theorem ownSl_nil {e sz : Nat} : Star [] = OwnSl e sz 0 (.slice none 0 0) [] := by
  funext h
  apply propext
  constructor
  · intro H; exact .inl ⟨rfl, rfl, rfl, H⟩
  · rintro (⟨_, _, _, H⟩ | ⟨_, _, _, e, _⟩)
    · exact H
    · cases e
theorem sat_ownNil {G w : World} {L : List HP} {e sz : Nat} (H : Sat G w L) : Sat G w (OwnSl e sz 0 (.slice none 0 0) [] :: L) := by
  rw [← ownSl_nil]
  exact H.mono fun k hk => ⟨fun _ => none, k, fun _ => rfl, hk, fun _ => .inl rfl, by funext i; rfl⟩
theorem sat_ownBlk {G w : World} {L : List HP} {e sz n cap b : Nat} {xs rest : List Value} (hn : n ≤ cap) (h1 : xs.length = n * sz) (h2 : (xs ++ rest).length = cap * sz) (H : Sat G w (Blk b (.cells (xs ++ rest).toArray e (0, 0)) :: L)) :
    Sat G w (OwnSl e sz n (.slice (some ⟨b, 0, none⟩) n cap) xs :: L) := H.weak fun _ h => .inr ⟨b, cap, rest, rfl, hn, h1, h2, h⟩
theorem sat_ownCases {G w : World} {L : List HP} {e sz n : Nat} {v : Value} {xs : List Value} (H : Sat G w (OwnSl e sz n v xs :: L)) :
    (v = .slice none 0 0 ∧ n = 0 ∧ xs = [] ∧ Sat G w L) ∨ (∃ b cap rest, v = .slice (some ⟨b, 0, none⟩) n cap ∧ n ≤ cap ∧ xs.length = n * sz ∧ (xs ++ rest).length = cap * sz ∧ Sat G w (Blk b (.cells (xs ++ rest).toArray e (0, 0)) :: L)) := by
  obtain ⟨k, ⟨a, l, ha, hl, hal, rfl⟩, h2⟩ := H.mem
  rcases ha with ⟨h1, h3, h4, _⟩ | ⟨b, cap, rest, h1, h3, h4, h5, h6⟩
  · exact .inl ⟨h1, h3, h4, H.tail⟩
  · exact .inr ⟨b, cap, rest, h1, h3, h4, h5, H.os, H.tape, H.output, H.gone, _, ⟨a, l, h6, hl, hal, rfl⟩, h2⟩

theorem nextcap_le (need old : Nat) (h : old < need) : Builtin.nextslicecap need old ≤ 2 * need + 2000 := by
  have hg : ∀ (r c : Nat), c ≤ need → Builtin.growBy need r c ≤ 2 * need + 2000 := by
    intro r
    induction r with
    | zero => intro c hc; unfold Builtin.growBy; omega
    | succ r ih =>
      intro c hc
      unfold Builtin.growBy
      split
      · omega
      · by_cases h2 : c + (c + 768) / 4 ≤ need
        · exact ih _ h2
        · have : ∀ r', Builtin.growBy need r' (c + (c + 768) / 4) = c + (c + 768) / 4 := by
            intro r'
            cases r' with
            | zero => rfl
            | succ r' => unfold Builtin.growBy; rw [if_pos (by omega)]
          rw [this]; omega
  unfold Builtin.nextslicecap
  split
  · omega
  · split
    · omega
    · exact hg 4 old (by omega)

/-- The cells that an append's second operand gives. -/
def Gives (S : Setup) (L : List HP) (v : Value) (sz m : Nat) (ys : List Value) : Prop :=
  (Builtin.lenOf v = pure m) ∧ ∀ w, Sat S.G w L → (Builtin.firstCells sz m v).run S.P w = .ok ys.toArray w
theorem gives_slice {b off m mc sz : Nat} {c : Array Value} [hr : Reads S.G L b c] (h : off + m * sz ≤ c.size) : Gives S L (.slice (some ⟨b, off, none⟩) m mc) sz m (c.extract off (off + m * sz)).toList := by
  refine ⟨rfl, fun w hw => ?_⟩
  obtain ⟨T, fz, hb⟩ := hr.read w hw
  show (loadCells ⟨b, off, none⟩ (m * sz)).run S.P w = _
  rw [run_loadCells_blk hb h, Array.toArray_toList]
theorem gives_nil {sz : Nat} : Gives S L (.slice none 0 0) sz 0 [] := ⟨rfl, fun _ _ => rfl⟩

theorem run_append {P : Program} {w : World} {t t2 ty e m sLen sCap B : Nat} {base : Option Addr} {u : Value} {z new : Array Value} (hT : ElemT P t e z B) {dsc : TypeDesc} (hu2 : P.underlying t2 = some dsc) (hnint : ∀ k, dsc ≠ .int k)
    (hlen : Builtin.lenOf u = pure m) (hnew : (Builtin.firstCells z.size m u).run P w = .ok new w) (hB0 : B ≠ 0) (hb : B * (2 * (sLen + m) + 2000) ≤ 281474976710656) :
    (Builtin.append_ #[t, t2] ty #[.slice base sLen sCap, u]).run P w =
      if sLen + m ≤ sCap then (match base with | some a => storeCells (a.add (sLen * z.size)) new.toList | none => pure ()).run P w |>.andThen fun _ w' => .ok (.slice base (sLen + m) sCap) w'
      else ((Builtin.firstCells z.size sLen (.slice base sLen sCap)).run P { w with drawn := w.drawn + 1 }).andThen fun old w' => ((Builtin.firstCells z.size m u).run P w').andThen fun new w'' =>
        let cap := (Question.appendCap (sLen + m) sCap e).cut (w.tape w.drawn (Question.appendCap (sLen + m) sCap e))
        .ok (.slice (some ⟨w''.heap.size, 0, none⟩) (sLen + m) cap) { w'' with heap := w''.heap.push (.cells (old ++ new ++ Builtin.zeroCells z (cap - (sLen + m))) e) } := by
  obtain ⟨i, vz, hi, hB, hS, hz, hcells⟩ := hT.info
  have hzv : zeroT P e vz := by unfold zeroT; rw [hi]; exact hz
  have hzeros : (match dsc with | .int _ => true | _ => false) = false := by cases dsc <;> first | rfl | exact absurd rfl (hnint _)
  have hroom : ∀ n w', (askRoom n).run P w' = .ok () w' := by intro n w'; unfold askRoom; split <;> rfl
  unfold Builtin.append_
  simp only [List.getElem?_toArray, List.getElem?_cons_zero, List.getElem?_cons_succ, Sem.run_bind, run_underlying t (sliceT_eq hT.sl), Result.andThen_ok, run_sizeOf hT.size, run_underlying t2 hu2, Sem.run_pure]
  rw [if_neg (by simp)]
  simp only [hlen, Sem.run_bind, Sem.run_pure, Result.andThen_ok, Bool.not_false, if_true]
  by_cases h : sLen + m ≤ sCap
  · rw [if_pos h, if_pos h]
    cases base with
    | none => simp [hnew]
    | some a => simp only [Sem.run_bind, hnew, Result.andThen_ok, Sem.run_pure]
  · rw [if_neg h, if_neg h]
    have hcap := nextcap_le (sLen + m) sCap (by omega)
    have hbig : ¬ Builtin.nextslicecap (sLen + m) sCap * B > 2 ^ 48 := by
      have h1 : Builtin.nextslicecap (sLen + m) sCap * B ≤ (2 * (sLen + m) + 2000) * B := Nat.mul_le_mul_right _ hcap
      have h2 : (2 * (sLen + m) + 2000) * B ≤ 281474976710656 := by rw [Nat.mul_comm]; exact hb
      omega
    simp only [Sem.run_bind, run_typeInfo hi, Result.andThen_ok, hB, hB0, or_false, Bool.false_eq_true, and_false, if_false]
    rw [if_neg hbig]
    have hch : (choose (Question.appendCap (sLen + m) sCap e)).run P w = .ok ((Question.appendCap (sLen + m) sCap e).cut (w.tape w.drawn (Question.appendCap (sLen + m) sCap e))) { w with drawn := w.drawn + 1 } := rfl
    simp only [Sem.run_bind, hch, run_typeInfo hi, hroom, Result.andThen_ok, run_zeroValue hzv, hcells, Sem.run_pure]
    rfl

theorem k_append {t e d n m B : Nat} {x y : Operand} {v u : Value} {xs ys : List Value} {ts : Array TypeId} {z : Array Value} (t2 : TypeId) (hx : ev ρ x = some v) (hy : ev ρ y = some u) [hf : Front (OwnSl e z.size n v xs) L L'] (hg : Gives S L' u z.size m ys) (hT : ElemT S.P t e z B)
    (ht : ts = #[t, t2]) (hint : (match S.P.underlying t2 with | some (.int _) | none => false | _ => true) = true) (hl : ys.length = m * z.size) (h1 : ∀ q ∈ ys, q.oneCell' = true) (hB0 : B ≠ 0) (hb : B * (2 * (n + m) + 2000) ≤ 281474976710656) (hd : Nat.blt d S.n = true)
    (hn : ∀ v', v'.oneCell' = true → N ((d, v') :: ρ) (OwnSl e z.size (n + m) v' (xs ++ ys) :: L')) :
    OpK S ops ⟨some d, .call { callee := .builtin .append, args := #[x, y], argTypes := ts }, ty, pos, after, none⟩ ρ L N := by
  intro a w ha hw
  unfold OpA
  rw [if_pos wanted_none]
  subst ht
  have hw1 := hw.perm hf.perm
  have hint' : ∃ dsc, S.P.underlying t2 = some dsc ∧ (∀ k, dsc ≠ .int k) := by
    cases hu : S.P.underlying t2 with
    | none => rw [hu] at hint; cases hint
    | some dsc => exact ⟨dsc, rfl, fun k hk => by rw [hu, hk] at hint; cases hint⟩
  obtain ⟨dsc, hu2, hnint⟩ := hint'
  have hvs : ∃ base cap, v = .slice base n cap := by
    rcases sat_ownCases hw1 with ⟨h1, h2, _⟩ | ⟨b, cap, rest, h1, _⟩
    · exact ⟨none, 0, by rw [h1, h2]⟩
    · exact ⟨_, cap, h1⟩
  obtain ⟨base, cap, rfl⟩ := hvs
  have hnew := hg.2 w hw1.tail
  have hrun := run_append (P := S.P) (w := w) (t := t) (t2 := t2) (ty := ty) (sCap := cap) (base := base) (sLen := n) hT hu2 hnint hg.1 hnew hB0 hb
  have hexec : (execOp a.eval ⟨some d, .call { callee := .builtin .append, args := #[x, y], argTypes := #[t, t2] }, ty, pos, after, none⟩).run S.P w = ((Builtin.append_ #[t, t2] ty #[.slice base n cap, u]).run S.P w).andThen fun v w' => .ok (.value v) w' := by
    simp [execOp, resolve, ha.ev hx, ha.ev hy, invoke, builtin]
  rw [hexec, hrun]
  clear hexec hrun
  by_cases hfit : n + m ≤ cap
  · rw [if_pos hfit]
    rcases sat_ownCases hw1 with ⟨e1, e2, e3, hw2⟩ | ⟨b, cap', rest, e1, e2, e3, e4, hw2⟩
    · -- no slice yet, and nothing to append
      injection e1 with e1 _ e5
      subst e1; subst e2; subst e3; subst e5
      have hm : m = 0 := by omega
      subst hm
      have hys : ys = [] := by rw [Nat.zero_mul] at hl; exact List.length_eq_zero_iff.1 hl
      subst hys
      exact ⟨_, _, ha.put (blt_lt hd) _, sat_ownNil hw2, hn _ rfl⟩
    · injection e1 with e1 _ e5
      subst e1; subst e5
      have hbw := hw2.blk
      have hlen : 0 + n * z.size + 0 + ys.length ≤ (xs ++ rest).toArray.size := by
        rw [show (xs ++ rest).toArray.size = (xs ++ rest).length from List.size_toArray .., e4, hl]
        have : (n + m) * z.size ≤ cap * z.size := Nat.mul_le_mul_right _ hfit
        rw [Nat.add_mul] at this; omega
      have hst := run_storeCells_at (P := S.P) b (0 + n * z.size) e ys 0 (xs ++ rest).toArray w hbw hlen h1
      simp only [add_off, hst, Result.andThen_ok]
      have hsplit : ((xs ++ rest).toArray.toList.take (0 + n * z.size + 0) ++ ys ++ (xs ++ rest).toArray.toList.drop (0 + n * z.size + 0 + ys.length)) = (xs ++ ys) ++ rest.drop ys.length := by
        have h0 : 0 + n * z.size + 0 = xs.length := by omega
        rw [h0]
        simp [List.drop_append]
      rw [hsplit]
      refine ⟨_, _, ha.put (blt_lt hd) _, sat_ownBlk hfit ?_ ?_ (sat_setRow hw2), hn _ rfl⟩
      · rw [List.length_append, e3, hl, Nat.add_mul]
      · have h5 : (n + m) * z.size ≤ cap * z.size := Nat.mul_le_mul_right _ hfit
        simp only [List.length_append, List.length_drop] at e4 ⊢
        rw [Nat.add_mul] at h5
        omega
  · rw [if_neg hfit]
    have hold : (Builtin.firstCells z.size n (.slice base n cap)).run S.P { w with drawn := w.drawn + 1 } = .ok xs.toArray { w with drawn := w.drawn + 1 } := by
      rcases sat_ownCases hw1 with ⟨e1, e2, e3, hw2⟩ | ⟨b, cap', rest, e1, e2, e3, e4, hw2⟩
      · injection e1 with e1 _ _
        subst e1; subst e2; subst e3; rfl
      · injection e1 with e1 _ e5
        subst e1; subst e5
        have hbw := (hw2.drawn (w.drawn + 1)).blk
        have hle : 0 + n * z.size ≤ (xs ++ rest).toArray.size := by rw [show (xs ++ rest).toArray.size = (xs ++ rest).length from List.size_toArray .., ← e3]; simp
        show (loadCells ⟨b, 0, none⟩ (n * z.size)).run S.P _ = _
        rw [run_loadCells_blk hbw hle]
        congr 1
        apply Array.ext'
        simp [← e3]
    have hnew' := hg.2 _ (hw1.tail.drawn (w.drawn + 1))
    rw [hold, Result.andThen_ok, hnew', Result.andThen_ok]
    generalize hcap : (Question.appendCap (n + m) cap e).cut (w.tape w.drawn (Question.appendCap (n + m) cap e)) = c
    have hle : n + m ≤ c := by rw [← hcap]; simp [Question.cut]
    have hsat : Sat S.G { { w with drawn := w.drawn + 1 } with heap := w.heap.push (.cells (xs.toArray ++ ys.toArray ++ Builtin.zeroCells z (c - (n + m))) e) } (Blk w.heap.size (.cells ((xs ++ ys) ++ (Builtin.zeroCells z (c - (n + m))).toList).toArray e (0, 0)) :: L') := by
      have := (hw1.tail.drawn (w.drawn + 1)).new (w' := { { w with drawn := w.drawn + 1 } with heap := w.heap.push (.cells (xs.toArray ++ ys.toArray ++ Builtin.zeroCells z (c - (n + m))) e) }) (.cells (xs.toArray ++ ys.toArray ++ Builtin.zeroCells z (c - (n + m))) e (0, 0)) rfl rfl rfl rfl
      have e : ((xs ++ ys) ++ (Builtin.zeroCells z (c - (n + m))).toList).toArray = xs.toArray ++ ys.toArray ++ Builtin.zeroCells z (c - (n + m)) := by
        apply Array.ext'; simp
      rw [e]; exact this
    have hxl : xs.length = n * z.size := by
      rcases sat_ownCases hw1 with ⟨e1, e2, e3, _⟩ | ⟨b, cap', rest, e1, e2, e3, _⟩
      · subst e2; subst e3; simp
      · exact e3
    refine ⟨_, _, ha.put (blt_lt hd) _, sat_ownBlk hle ?_ ?_ hsat, hn _ rfl⟩
    · rw [List.length_append, hxl, hl, Nat.add_mul]
    · rw [List.length_append, List.length_append, hxl, hl]
      have : (Builtin.zeroCells z (c - (n + m))).toList.length = (c - (n + m)) * z.size := by simp [Builtin.zeroCells]
      rw [this, ← Nat.add_mul, ← Nat.add_mul, Nat.add_sub_cancel' hle]

/-! ### A slice of one element, and a push -/
theorem run_buildSlice1 {P : Program} {w : World} {t e : Nat} {v : Value} {z : Array Value} {B : Nat} (hT : ElemT P t e z B) (hv : v.cells.size = z.size) (h0 : z.size ≠ 0) (h1 : z.size ≤ 1000) :
    (Instr.buildSlice t 1 #[(0, v)]).run P w = .ok (.slice (some ⟨w.heap.size, 0, none⟩) 1 1) { w with heap := w.heap.push (.cells v.cells e) } := by
  obtain ⟨i, vz, hi, hB, hS, hz, hcells⟩ := hT.info
  have hzv : zeroT P e vz := by unfold zeroT; rw [hi]; exact hz
  have hfill : ∀ (c : Array Value), c.size = z.size → Instr.fill (fun i => some (i * z.size, z.size)) c [(0, v)] = some v.cells := by
    intro c hc
    unfold Instr.fill
    simp only [Nat.zero_mul, Nat.zero_add]
    rw [if_neg (by simp [hv, hc])]
    unfold Instr.fill
    congr 1
    have key : ∀ (l : List Value) (k : Nat) (c : Array Value), k + l.length = c.size → (l.zipIdx k).foldl (fun cs (x : Value × Nat) => cs.setIfInBounds x.2 x.1) c = (c.toList.take k ++ l).toArray := by
      intro l
      induction l with
      | nil =>
        intro k c hk
        simp at hk
        subst hk
        apply Array.ext'
        simp [List.take_of_length_le]
      | cons x l ih =>
        intro k c hk
        rw [List.zipIdx_cons, List.foldl_cons, ih (k + 1) _ (by simp at hk ⊢; omega)]
        apply Array.ext'
        simp only [Array.toList_setIfInBounds]
        have hk' : k < c.toList.length := by simp at hk ⊢; omega
        rw [List.take_succ_eq_append_getElem (by simpa using hk')]
        simp [List.take_set_of_le]
    have h2 := key v.cells.toList 0 c (by simp [hv, hc])
    have h3 : (v.cells.zipIdx.foldl (fun cs (x : Value × Nat) => cs.setIfInBounds x.2 x.1) c) = (v.cells.toList.zipIdx 0).foldl (fun cs (x : Value × Nat) => cs.setIfInBounds x.2 x.1) c := by
      rw [← Array.foldl_toList]; simp
    rw [h3, h2]
    simp
  unfold Instr.buildSlice
  have hlim : ¬ (1 * z.size > 2 ^ 24) := by simp; omega
  simp only [Sem.run_bind, run_underlying t (sliceT_eq hT.sl), Result.andThen_ok, run_sizeOf hT.size]
  rw [if_neg hlim]
  simp only [Nat.one_mul, if_neg h0, Sem.run_bind, run_zeroValue hzv, hcells, Result.andThen_ok, Sem.run_pure]
  rw [hfill _ (by simp)]
  rfl

theorem k_buildSlice1 {t e d B : Nat} {x : Operand} {v : Value} {z : Array Value} (hx : ev ρ x = some v) (hT : ElemT S.P t e z B) (hv : v.cells.size = z.size) (h0 : z.size ≠ 0) (h1 : z.size ≤ 1000) (hd : Nat.blt d S.n = true)
    (hn : ∀ b, N ((d, .slice (some ⟨b, 0, none⟩) 1 1) :: ρ) (Blk b (.cells v.cells e (0, 0)) :: L)) :
    OpK S ops ⟨some d, .buildSlice t 1 #[(0, x)], ty, pos, after, none⟩ ρ L N := by
  intro a w ha hw
  unfold OpA
  rw [if_pos wanted_none]
  have hr : (execOp a.eval ⟨some d, .buildSlice t 1 #[(0, x)], ty, pos, after, none⟩).run S.P w = ((Instr.buildSlice t 1 #[(0, v)]).run S.P w).andThen fun v w' => .ok (.value v) w' := by
    simp [execOp, ha.ev hx]
  rw [hr, run_buildSlice1 hT hv h0 h1]
  exact ⟨_, _, ha.put (blt_lt hd) _, hw.new _ rfl rfl rfl rfl, hn _⟩

theorem RunOps.mem {os : List Oper} {ks : List Item} (p : ∀ w, Sat S.G w L → Sat S.G w L') (h : RunOps S ops os ks ρ L') : RunOps S ops os ks ρ L := by
  cases os with
  | nil => exact Run.mem h p
  | cons o os => exact OpK.mem p h

/-- 'append(s, x)': one element more. -/
theorem run_push {t e d1 d2 t' n B : Nat} {y : Operand} {v u : Value} {xs : List Value} {z : Array Value} {ty1 ty2 : TypeId} {pos1 pos2 : String} {after1 after2 : Array Edge} {os : List Oper} {ks : List Item}
    (hy : ev ρ y = some u) (hx : look ρ t' = some v) (hne : Nat.beq d1 t' = false) [hf : Front (OwnSl e z.size n v xs) L L'] (hT : ElemT S.P t e z B) (hint : (match S.P.underlying t with | some (.int _) | none => false | _ => true) = true)
    (hv : u.cells.size = z.size) (h0 : z.size ≠ 0) (h1 : z.size ≤ 1000) (hu1 : (u.cells.toList.all (·.oneCell')) = true)
    (hB0 : B ≠ 0) (hb : B * (2 * (n + 1) + 2000) ≤ 281474976710656) (hd1 : Nat.blt d1 S.n = true) (hd2 : Nat.blt d2 S.n = true)
    (hn : ∀ u' v', v'.oneCell' = true → RunOps S ops os ks ((d2, v') :: (d1, u') :: ρ) (OwnSl e z.size (n + 1) v' (xs ++ u.cells.toList) :: L')) :
    RunOps S ops (⟨some d1, .buildSlice t 1 #[(0, y)], ty1, pos1, after1, none⟩ :: ⟨some d2, .call { callee := .builtin .append, args := #[.tmp t', .tmp d1], argTypes := #[t, t] }, ty2, pos2, after2, none⟩ :: os) ks ρ L := by
  refine k_buildSlice1 hy hT hv h0 h1 hd1 fun b => ?_
  have hx' : ev ((d1, .slice (some ⟨b, 0, none⟩) 1 1) :: ρ) (.tmp t') = some v := by
    show cond (Nat.beq d1 t') _ _ = _
    rw [hne]; exact hx
  have hg : Gives S (Blk b (.cells u.cells e (0, 0)) :: L') (.slice (some ⟨b, 0, none⟩) 1 1) z.size 1 u.cells.toList := by
    have := gives_slice (S := S) (L := Blk b (.cells u.cells e (0, 0)) :: L') (b := b) (off := 0) (m := 1) (mc := 1) (sz := z.size) (c := u.cells) (by rw [hv]; omega)
    have e1 : (u.cells.extract 0 (0 + 1 * z.size)).toList = u.cells.toList := by
      rw [show 0 + 1 * z.size = u.cells.size by rw [hv]; omega]; simp
    rwa [e1] at this
  refine k_append (v := v) (n := n) (xs := xs) (e := e) (L' := Blk b (.cells u.cells e (0, 0)) :: L') t hx' (by simp [ev, look_cons]) hg hT rfl hint (by simp [hv]) (fun q hq => List.all_eq_true.1 hu1 q hq) hB0 hb hd2 fun v' h1 => ?_
  exact RunOps.mem (fun w hw => hw.swap.tail) (hn _ v' h1)

/-! ### A slice of ours, found by its value -/
class FindOwn (e sz : Nat) (v : Value) (L : List HP) (n : outParam Nat) (xs : outParam (List Value)) (L' : outParam (List HP)) : Prop where
  perm : L.Perm (OwnSl e sz n v xs :: L')
instance findOwnTail {e sz n : Nat} {v : Value} {xs : List Value} {A : HP} {L L' : List HP} [h : FindOwn e sz v L n xs L'] : FindOwn e sz v (A :: L) n xs (A :: L') := ⟨(h.perm.cons A).trans (.swap _ A L')⟩
instance findOwnHead {e sz n : Nat} {v : Value} {xs : List Value} {L : List HP} : FindOwn e sz v (OwnSl e sz n v xs :: L) n xs L := ⟨.refl _⟩
theorem k_append1 {t e d n b B : Nat} {x y : Operand} {v : Value} {xs : List Value} {z c : Array Value} (sz : Nat) (hx : ev ρ x = some v) (hy : ev ρ y = some (.slice (some ⟨b, 0, none⟩) 1 1)) [hf : FindOwn e sz v L n xs L'] [hr : Reads S.G L' b c]
    (hT : ElemT S.P t e z B) (hsz : z.size = sz) (hint : (match S.P.underlying t with | some (.int _) | none => false | _ => true) = true) (hc : c.size = sz) (h1 : (c.toList.all (·.oneCell')) = true)
    (hB0 : B ≠ 0) (hb : B * (2 * (n + 1) + 2000) ≤ 281474976710656) (hd : Nat.blt d S.n = true)
    (hn : ∀ v', v'.oneCell' = true → N ((d, v') :: ρ) (OwnSl e sz (n + 1) v' (xs ++ c.toList) :: L')) :
    OpK S ops ⟨some d, .call { callee := .builtin .append, args := #[x, y], argTypes := #[t, t] }, ty, pos, after, none⟩ ρ L N := by
  subst hsz
  haveI : Front (OwnSl e z.size n v xs) L L' := ⟨hf.perm⟩
  have hg : Gives S L' (.slice (some ⟨b, 0, none⟩) 1 1) z.size 1 c.toList := by
    have := gives_slice (S := S) (L := L') (b := b) (off := 0) (m := 1) (mc := 1) (sz := z.size) (c := c) (by rw [hc]; omega)
    have e1 : (c.extract 0 (0 + 1 * z.size)).toList = c.toList := by
      rw [show 0 + 1 * z.size = c.size by rw [hc]; omega]; simp
    rwa [e1] at this
  exact k_append (v := v) (n := n) (xs := xs) (e := e) t hx hy hg hT rfl hint (by simp [hc]) (fun q hq => List.all_eq_true.1 h1 q hq) hB0 hb hd hn

theorem reads_append {G : World} {L : List HP} {b : Nat} {c : Array Value} (M : List HP) (h : Reads G L b c) : Reads G (M ++ L) b c := ⟨fun w hw => h.read w hw.append_right⟩
/-- What a slice of ours is, seen from outside: its cells can be read where there are any. -/
theorem own_open {G w : World} {e sz n : Nat} {v : Value} {xs : List Value} {L : List HP} (H : Sat G w (OwnSl e sz n v xs :: L)) :
    ∃ base cap M, v = .slice base n cap ∧ xs.length = n * sz ∧ n ≤ cap ∧ Sat G w (M ++ L) ∧ ∀ i, i < xs.length → ∃ b C, base = some ⟨b, 0, none⟩ ∧ C[i]? = xs[i]? ∧ ∀ L, Reads G (M ++ L) b C := by
  rcases sat_ownCases H with ⟨h1, h2, h3, h4⟩ | ⟨b, cap, rest, h1, h2, h3, h4, h5⟩
  · subst h2 h3
    exact ⟨none, 0, [], h1, by simp, Nat.le_refl _, h4, fun i hi => by simp at hi⟩
  · exact ⟨_, cap, [_], h1, h3, h2, h5, fun i hi => ⟨b, (xs ++ rest).toArray, rfl, by simp [List.getElem?_append_left hi], fun L => reads_mem (T := e) (fz := (0, 0)) (by simp)⟩⟩
end
end Go.PS
