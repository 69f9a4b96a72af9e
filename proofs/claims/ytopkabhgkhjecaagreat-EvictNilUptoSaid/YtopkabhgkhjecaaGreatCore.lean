/-
  One activation's run, told by what its temporaries are known to hold and by what memory is known to hold; one rule a statement and a way to leave.
  Conditions: the rules' own.
-/
import Derived.Test.YtopkabhgkhjecaaGreatHeap
import Derived.Laws.Sem
import Derived.RangeFuncIn
import Derived.StillTail
import Derived.Deep.Quiet
namespace Go.PS
open Go

abbrev Env := List (Nat × Value)
def look : Env → Nat → Option Value
  | [], _ => none
  | (k, v) :: r, t => cond (Nat.beq k t) (some v) (look r t)

theorem look_cons (ρ : Env) (k t : Nat) (v : Value) : look ((k, v) :: ρ) t = if k = t then some v else look ρ t := by
  show cond (Nat.beq k t) _ _ = _
  by_cases h : k = t
  · subst h; simp
  · have : Nat.beq k t = false := by
      cases hb : Nat.beq k t with
      | false => rfl
      | true => exact absurd (Nat.eq_of_beq_eq_true hb) h
    rw [this, if_neg h]; rfl

def ev (ρ : Env) : Operand → Option Value
  | .tmp t => look ρ t
  | .const v => some v
  | .global g => some (.pointer (some ⟨g, 0, none⟩))
  | .func f => some (.func (.func f) #[] #[])

structure Agr (a : Act) (n : Nat) (ds : List Deferred) (ρ : Env) : Prop where
  size : a.tmps.size = n
  ds : a.defers = ds
  at_ : ∀ t v, look ρ t = some v → a.tmps.getD t undef = v

theorem Agr.ev {a : Act} {n : Nat} {ds : List Deferred} {ρ : Env} (h : Agr a n ds ρ) {x : Operand} {v : Value} (hx : ev ρ x = some v) : a.eval x = v := by
  cases x with
  | tmp t => exact h.at_ t v hx
  | const u => exact Option.some.inj hx
  | global g => exact Option.some.inj hx
  | func f => exact Option.some.inj hx

theorem Agr.put {a : Act} {n : Nat} {ds : List Deferred} {ρ : Env} (h : Agr a n ds ρ) {d : Nat} (hd : d < n) (v : Value) : Agr (a.put (some d) v) n ds ((d, v) :: ρ) := by
  refine ⟨by simp [Act.put, h.size], by simpa [Act.put] using h.ds, fun t u ht => ?_⟩
  rw [look_cons] at ht
  by_cases e : d = t
  · subst e
    rw [if_pos rfl] at ht
    have hs : d < a.tmps.size := by rw [h.size]; exact hd
    simp [Act.put, hs, Option.some.inj ht]
  · rw [if_neg e] at ht
    have := h.at_ t u ht
    simp only [Act.put, Array.getD_eq_getD_getElem?] at this ⊢
    rw [Array.getElem?_setIfInBounds_ne e]
    exact this

theorem Agr.putNone {a : Act} {n : Nat} {ds : List Deferred} {ρ : Env} (h : Agr a n ds ρ) (v : Value) : Agr (a.put none v) n ds ρ := h

/-- A smaller environment knows less. -/
def Sub (ρ : Env) : Env → Prop
  | [] => True
  | (t, v) :: r => look ρ t = some v ∧ Sub ρ r
theorem Sub.look {ρ ρ' : Env} (h : Sub ρ ρ') {t : Nat} {v : Value} (ht : look ρ' t = some v) : look ρ t = some v := by
  induction ρ' with
  | nil => cases ht
  | cons p r ih =>
    obtain ⟨k, u⟩ := p
    rw [look_cons] at ht
    by_cases e : k = t
    · subst e; rw [if_pos rfl] at ht; rw [← Option.some.inj ht]; exact h.1
    · rw [if_neg e] at ht; exact ih h.2 ht
theorem Agr.sub {a : Act} {n : Nat} {ds : List Deferred} {ρ ρ' : Env} (h : Agr a n ds ρ) (hs : Sub ρ ρ') : Agr a n ds ρ' :=
  ⟨h.size, h.ds, fun t v ht => h.at_ t v (hs.look ht)⟩

/-- How an activation is left: a function's, or a round of a loop over a function. -/
inductive Kont where
  | fn (f : FuncId) (R : Ending → World → Prop)
  | round (f : FuncId) (l : Nat) (R : Value → World → Prop)

def Kont.ok : Kont → Frame → List Frame → Prop
  | .fn f _, b, _ => b.fn = f ∧ b.kind = .normal ∧ b.roundOf = none
  | .round f l _, b, cs => b.fn = f ∧ b.kind = .normal ∧ b.roundOf = some l ∧ cs ≠ []
def Kont.isFn : Kont → Bool
  | .fn .. => true
  | .round .. => false
def Kont.id : Kont → FuncId
  | .fn f _ => f
  | .round f _ _ => f
def Kont.Done (P : Program) : Kont → List Frame → Machine → Prop
  | .fn f R, cs, m => ∃ e w' fr, R e w' ∧ e ≠ .outgrown ∧ m = lone fr cs w' ∧ fr.fn = f ∧ fr.leaving P w' e
  | .round _ _ R, cs, m => ∃ c cs' v w', cs = c :: cs' ∧ m = lone (c.finish v) cs' w' ∧ R v w'
def Kont.Panics (P : Program) : Kont → List PanicEntry → World → Prop
  | .fn f R, ch, w => (∃ fn, P.funcs[f]? = some fn) ∧ R (.panicked ch) w
  | .round .., _, _ => False

def Runs (P : Program) (K : Kont) (ks : List Item) (a : Act) (w : World) : Prop :=
  ∀ (b : Frame) (cs : List Frame), K.ok b cs → ∃ m', K.Done P cs m' ∧ Steps P (lone (b.atR a ks) cs w) m'

theorem Runs.step {P : Program} {K : Kont} {ks ks' : List Item} {a a' : Act} {w w' : World} (h : Runs P K ks' a' w')
    (hs : ∀ b cs, K.ok b cs → step P (lone (b.atR a ks) cs w) = .next (lone (b.atR a' ks') cs w')) : Runs P K ks a w :=
  fun b cs hk => let ⟨m', h1, h2⟩ := h b cs hk; ⟨m', h1, .head (hs b cs hk) h2⟩

/-- A round, from yield's call to its end. -/
def Rounds (P : Program) (l : Nat) (f : FuncId) (tmps : Array Value) (assign body : Code) (w : World) (R : Value → World → Prop) : Prop :=
  Runs P (.round f l R) [.code assign, .beginRound, .code body] { tmps := tmps, defers := [] } w

structure Setup where
  P : Program
  G : World
  K : Kont
  n : Nat
  ds : List Deferred

def UponA (S : Setup) (o : Oper) (a : Act) (N : Act → World → Prop) : Result Next → Prop
  | .ok (.value v) w' => N (a.put o.dst v) w'
  | .ok .skip w' => N (a.put o.dst undef) w'
  | .ok (.enter f args) w' => Calls S.P f args w' fun
      | .returned v, w'' => N (a.put o.dst v) w''
      | .panicked ch, w'' => a.defers = [] ∧ S.K.Panics S.P ch w''
      | .outgrown, _ => False
  | .ok (.round l f tmps assign body) w' => Rounds S.P l f tmps assign body w' fun v w'' => N (a.put o.dst v) w''
  | .ok (.defer d) w' => S.K.isFn = true ∧ N ({ a with defers := d :: a.defers }.put o.dst undef) w'
  | .halt (.panic v) w' => a.defers = [] ∧ S.K.Panics S.P [{ v, recovered := false }] w'
  | _ => False

def OpA (S : Setup) (ops : Array Oper) (o : Oper) (a : Act) (w : World) (N : Act → World → Prop) : Prop :=
  if Region.wanted o (yielded ops a.tmps) then UponA S o a N ((execOp a.eval o).run S.P w) else N (a.put o.dst undef) w

theorem Kont.panics_done {P : Program} {K : Kont} {ch : List PanicEntry} {w : World} (h : K.Panics P ch w) {b : Frame} {cs : List Frame} (hk : K.ok b cs) {fr : Frame}
    (h1 : fr.fn = b.fn) (h2 : fr.mode = .panicking ch) (h3 : fr.defers = []) : K.Done P cs (lone fr cs w) := by
  cases K with
  | fn f R =>
    obtain ⟨⟨fn, hf⟩, hR⟩ := h
    obtain ⟨e1, e2, e3⟩ := hk
    exact ⟨.panicked ch, w, fr, hR, (fun h => by cases h), rfl, h1.trans e1, h2, h3, fn, by rw [h1, e1]; exact hf⟩
  | round f l R => exact h.elim

theorem semAt_of {K : Kont} {b : Frame} {cs : List Frame} (hk : K.ok b cs) (ρ : Operand → Value) (o : Oper) (h : K.isFn = true ∨ ∀ c, o.op ≠ .defer c) : o.semAt b.roundOf ρ = execOp ρ o := by
  rcases h with h | h
  · cases K with
    | fn f R => rw [hk.2.2]; rfl
    | round f l R => cases h
  · exact Oper.semAt_eq _ _ _ h

theorem exec_defer {P : Program} {ρ : Operand → Value} {o : Oper} {c : Go.Call} (ho : o.op = .defer c) {w w' : World} {x : Next} (h : (execOp ρ o).run P w = .ok x w') : ∃ d, x = .defer d := by
  unfold execOp at h
  rw [ho] at h
  simp only [Sem.run_bind] at h
  cases hr : (resolve ρ c o.type).run P w with
  | ok d w1 =>
    rw [hr] at h
    simp only [Result.andThen_ok, Sem.run_pure, Result.ok.injEq] at h
    exact ⟨d, h.1.symm⟩
  | halt x w1 => rw [hr] at h; simp at h

theorem exec_defer_halt {P : Program} {ρ : Operand → Value} {o : Oper} {c : Go.Call} (ho : o.op = .defer c) {w w' : World} {v : Value} (h : (execOp ρ o).run P w = .halt (.panic v) w') : False := by
  unfold execOp at h
  rw [ho] at h
  simp only [Sem.run_bind] at h
  unfold resolve at h
  cases hc : c.callee with
  | builtin b => simp [hc] at h
  | invoke r m => simp [hc] at h
  | value f =>
    simp only [hc] at h
    unfold Deferred.ofValue at h
    split at h <;> simp [stuck, Sem.run] at h

/-- One operation of a region. -/
theorem runs_op {S : Setup} {ops : Array Oper} {i : Nat} {rest : List Nat} {o : Oper} {a : Act} {w : World} {ks : List Item} {N : Act → World → Prop}
    (ho : ops[i]? = some o) (h : OpA S ops o a w N) (hN : ∀ a' w', N a' w' → Runs S.P S.K (.inRegion ops rest :: ks) a' w') :
    Runs S.P S.K (.inRegion ops (i :: rest) :: ks) a w := by
  intro b cs hk
  unfold OpA at h
  by_cases hw : Region.wanted o (yielded ops a.tmps) = true
  · rw [if_pos hw] at h
    have hg := stepGR_op (P := S.P) (b := b) (k := ks) (cs := cs) (w := w) (rest := rest) ho hw
    have hfin : ∀ v, (b.atR a (.inRegion ops (i :: rest) :: ks)).finish v = b.atR (a.put o.dst v) (.inRegion ops rest :: ks) := by
      intro v; rw [Frame.finish_atR, ho]; rfl
    have hsem : o.semAt b.roundOf a.eval = execOp a.eval o := by
      by_cases hf : S.K.isFn = true
      · exact semAt_of hk _ _ (.inl hf)
      · refine semAt_of hk _ _ (.inr fun c hc => ?_)
        cases hr : (execOp a.eval o).run S.P w with
        | ok x w' =>
          obtain ⟨d, rfl⟩ := exec_defer hc hr
          rw [hr] at h
          exact hf h.1
        | halt x w' =>
          rw [hr] at h
          cases x <;> simp only [UponA] at h
          exact exec_defer_halt hc hr
    rw [hsem] at hg
    generalize hres : (execOp a.eval o).run S.P w = r at h
    unfold UponA at h
    split at h
    · rename_i v w'
      obtain ⟨m', hd, hs⟩ := hN _ _ h b cs hk
      refine ⟨m', hd, .head (step_lone_go ?_) hs⟩
      rw [hg, ← hfin]; simp [stepG.apply, hres]
    · rename_i w'
      obtain ⟨m', hd, hs⟩ := hN _ _ h b cs hk
      refine ⟨m', hd, .head (step_lone_go ?_) hs⟩
      rw [hg, ← hfin]; simp [stepG.apply, hres]
    · rename_i f args w'
      have hkind : b.kind = .normal := by cases hK : S.K with
        | fn f R => rw [hK] at hk; exact hk.2.1
        | round f l R => rw [hK] at hk; exact hk.2.1
      have henter : step S.P (lone (b.atR a (.inRegion ops (i :: rest) :: ks)) cs w) =
          .next (lone (Frame.enter S.P f args .normal) (b.atR a (.inRegion ops (i :: rest) :: ks) :: cs) w') :=
        step_lone_go (by rw [hg]; simp [stepG.apply, hres, Frame.atR])
      obtain ⟨e, w'', fr, hR, hsteps, hfn, hleave⟩ := h (b.atR a (.inRegion ops (i :: rest) :: ks) :: cs)
      cases e with
      | returned v =>
        obtain ⟨m', hd, hs⟩ := hN _ _ hR b cs hk
        refine ⟨m', hd, .head henter (Steps.trans hsteps (.head ?_ hs))⟩
        rw [← hfin]; exact step_leave_returned hleave
      | panicked ch =>
        refine ⟨_, S.K.panics_done hR.2 hk (fr := { b.atR a (.inRegion ops (i :: rest) :: ks) with mode := .panicking ch }) rfl rfl hR.1, .head henter (Steps.trans hsteps (.one ?_))⟩
        rw [← Frame.raise_atR]; exact step_leave_panicked hleave
      | outgrown => exact hR.elim
    · rename_i l f tmps assign body w'
      have henter : step S.P (lone (b.atR a (.inRegion ops (i :: rest) :: ks)) cs w) =
          .next (lone (Frame.round l f tmps assign body .normal) (b.atR a (.inRegion ops (i :: rest) :: ks) :: cs) w') :=
        step_lone_go (by rw [hg]; simp [stepG.apply, hres, Frame.atR])
      let b0 : Frame := { (default : Frame) with fn := f, kind := .normal, roundOf := some l }
      have hb0 : Frame.round l f tmps assign body .normal = b0.atR { tmps := tmps, defers := [] } [.code assign, .beginRound, .code body] := by
        simp [Frame.round, Frame.atR, b0]
      obtain ⟨m1, ⟨c, cs', v, w'', hcs, rfl, hR⟩, hs1⟩ := h b0 (b.atR a (.inRegion ops (i :: rest) :: ks) :: cs) ⟨rfl, rfl, rfl, by simp⟩
      injection hcs with hc1 hc2
      subst hc1; subst hc2
      obtain ⟨m', hd, hs⟩ := hN _ _ hR b cs hk
      refine ⟨m', hd, .head henter (Steps.trans ?_ hs)⟩
      rw [← hfin, hb0]; exact hs1
    · rename_i d w'
      obtain ⟨m', hd, hs⟩ := hN _ _ h.2 b cs hk
      refine ⟨m', hd, .head (step_lone_go ?_) hs⟩
      have : ({ b.atR a (.inRegion ops (i :: rest) :: ks) with defers := d :: a.defers } : Frame).finish undef =
          b.atR ({ a with defers := d :: a.defers }.put o.dst undef) (.inRegion ops rest :: ks) := by
        have := Frame.finish_atR b { a with defers := d :: a.defers } ops i rest ks undef
        rw [ho] at this; exact this
      rw [hg]; simp only [stepG.apply, Sem.runT_eq, hres, GStep.bare_after]
      exact congrArg (fun fr => GStep.go { frame := fr, callers := cs, status := .running, dying := none } w') this
    · rename_i v w'
      refine ⟨_, S.K.panics_done h.2 hk (fr := { b.atR a (.inRegion ops (i :: rest) :: ks) with mode := .panicking [{ v, recovered := false }] }) rfl rfl h.1, .one (step_lone_go ?_)⟩
      rw [hg, ← Frame.raise_atR]; simp [stepG.apply, hres]
    · exact h.elim
  · rw [if_neg hw] at h
    obtain ⟨m', hd, hs⟩ := hN _ _ h b cs hk
    have hst := stepR_op_skip (P := S.P) (b := b) (a := a) (k := ks) (cs := cs) (w := w) (ops := ops) (i := i) (rest := rest)
      (by simp [ho]; simpa using hw)
    simp only [ho, Option.bind_some] at hst
    exact ⟨m', hd, .head hst hs⟩

/-! ### With what is known -/

def OpK (S : Setup) (ops : Array Oper) (o : Oper) (ρ : Env) (L : List HP) (N : Env → List HP → Prop) : Prop :=
  ∀ a w, Agr a S.n S.ds ρ → Sat S.G w L → OpA S ops o a w fun a' w' => ∃ ρ' L', Agr a' S.n S.ds ρ' ∧ Sat S.G w' L' ∧ N ρ' L'

def Run (S : Setup) (ks : List Item) (ρ : Env) (L : List HP) : Prop :=
  ∀ a w, Agr a S.n S.ds ρ → Sat S.G w L → Runs S.P S.K ks a w

def RunOps (S : Setup) (ops : Array Oper) : List Oper → List Item → Env → List HP → Prop
  | [], ks => Run S ks
  | o :: os, ks => fun ρ L => OpK S ops o ρ L (RunOps S ops os ks)

section
variable {S : Setup} {ks : List Item} {ρ : Env} {L : List HP}

theorem run_ops {ops : Array Oper} : ∀ (os : List Oper) (k : Nat), (∀ j, os[j]? = ops[k + j]?) → ∀ {ρ : Env} {L : List HP}, RunOps S ops os ks ρ L → Run S (.inRegion ops (List.range' k os.length) :: ks) ρ L
  | [], _, _, _, _, h => fun a w ha hw => (h a w ha hw).step fun _ _ _ => stepR_region_end
  | o :: os, k, hk, ρ, L, h => fun a w ha hw => by
    have h0 : ops[k]? = some o := by simpa using (hk 0).symm
    rw [List.length_cons, List.range'_succ]
    refine runs_op h0 (h a w ha hw) ?_
    rintro a' w' ⟨ρ', L', ha', hw', hn⟩
    exact run_ops os (k + 1) (fun j => by have := hk (j + 1); simpa [Nat.add_assoc, Nat.add_comm 1 j] using this) hn a' w' ha' hw'

theorem run_region {id : Nat} {l : List Oper} (h : RunOps S l.toArray l ks ρ L) : Run S (.code (.region id l.toArray false) :: ks) ρ L := fun a w ha hw =>
  (run_ops l 0 (by simp) h a w ha hw).step fun b cs hk => by
    have := stepR_region (P := S.P) (b := b) (a := a) (k := ks) (cs := cs) (w := w) (ops := l.toArray) (id := id)
    rw [List.range_eq_range'] at this
    simpa using this

theorem run_seq {x y : Code} (h : Run S (.code x :: .code y :: ks) ρ L) : Run S (.code (.seq x y) :: ks) ρ L := fun a w ha hw => (h a w ha hw).step fun _ _ _ => stepR_seq
theorem run_skip (h : Run S ks ρ L) : Run S (.code .skip :: ks) ρ L := fun a w ha hw => (h a w ha hw).step fun _ _ _ => stepR_skip
theorem run_inBlock {id : Nat} (h : Run S ks ρ L) : Run S (.inBlock id :: ks) ρ L := fun a w ha hw => (h a w ha hw).step fun _ _ _ => stepR_inBlock
theorem run_block {id : Nat} {c : Code} (h : Run S (.code c :: .inBlock id :: ks) ρ L) : Run S (.code (.block id c) :: ks) ρ L := fun a w ha hw => (h a w ha hw).step fun _ _ _ => stepR_block
theorem run_exit {id : Nat} {k' : List Item} (hx : exitTo id ks = some k') (h : Run S k' ρ L) : Run S (.code (.exit id) :: ks) ρ L := fun a w ha hw => (h a w ha hw).step fun _ _ _ => stepR_exit hx
theorem run_cond {c : Operand} {x y : Code} {t : Bool} (hc : ev ρ c = some (.bool t)) (h : Run S (.code (cond t x y) :: ks) ρ L) : Run S (.code (.cond c x y) :: ks) ρ L := fun a w ha hw =>
  (h a w ha hw).step fun _ _ _ => by rw [stepR_cond (ha.ev hc)]; cases t <;> rfl
theorem run_if {c : Operand} {x y : Code} {p : Prop} [Decidable p] (hc : ev ρ c = some (.bool (decide p))) (ht : p → Run S (.code x :: ks) ρ L) (hf : ¬ p → Run S (.code y :: ks) ρ L) :
    Run S (.code (.cond c x y) :: ks) ρ L := by
  by_cases h : p
  · exact run_cond (t := true) (by rw [hc]; simp [h]) (ht h)
  · exact run_cond (t := false) (by rw [hc]; simp [h]) (hf h)
theorem run_ifT {c : Operand} {x y : Code} {p : Prop} [Decidable p] (hc : ev ρ c = some (.bool (decide p))) (hp : p) (h : Run S (.code x :: ks) ρ L) : Run S (.code (.cond c x y) :: ks) ρ L :=
  run_cond (t := true) (by rw [hc]; simp [hp]) h
theorem run_ifF {c : Operand} {x y : Code} {p : Prop} [Decidable p] (hc : ev ρ c = some (.bool (decide p))) (hp : ¬ p) (h : Run S (.code y :: ks) ρ L) : Run S (.code (.cond c x y) :: ks) ρ L :=
  run_cond (t := false) (by rw [hc]; simp [hp]) h
theorem run_ifB {c : Operand} {x y : Code} {t : Bool} (hc : ev ρ c = some (.bool t)) (ht : t = true → Run S (.code x :: ks) ρ L) (hf : t = false → Run S (.code y :: ks) ρ L) :
    Run S (.code (.cond c x y) :: ks) ρ L := by
  cases t
  · exact run_cond hc (hf rfl)
  · exact run_cond hc (ht rfl)

/-- Less known before is more shown. -/
theorem Run.sub {ρ' : Env} (h : Run S ks ρ' L) (hs : Sub ρ ρ') : Run S ks ρ L := fun a w ha hw => h a w (ha.sub hs) hw
theorem Run.mem {L' : List HP} (h : Run S ks ρ L') (hs : ∀ w, Sat S.G w L → Sat S.G w L') : Run S ks ρ L := fun a w ha hw => h a w ha (hs w hw)
theorem Run.perm {L' : List HP} (h : Run S ks ρ L') (p : L.Perm L') : Run S ks ρ L := h.mem fun _ hw => hw.perm p
theorem Run.ex {α : Sort _} {A : α → HP} (h : ∀ x, Run S ks ρ (A x :: L)) : Run S ks ρ ((fun m => ∃ x, A x m) :: L) := fun a w ha hw => let ⟨x, hx⟩ := hw.ex; h x a w ha hx
theorem Run.pure {p : Prop} {A : HP} (h : p → Run S ks ρ (A :: L)) : Run S ks ρ ((fun m => p ∧ A m) :: L) := fun a w ha hw => let ⟨x, hx⟩ := hw.pure; h x a w ha hx

/-- A loop: 'I i ρ L' at each round's head, the measure falling from round to round. -/
theorem run_loop {c : Code} {ι : Type} (μ : ι → Nat) (I : ι → Env → List HP → Prop) (i : ι) (h0 : I i ρ L)
    (round : ∀ i ρ L, I i ρ L → (∀ j ρ' L', μ j < μ i → I j ρ' L' → Run S (.inLoop c :: ks) ρ' L') → Run S (.code c :: .inLoop c :: ks) ρ L) :
    Run S (.code (.loop c) :: ks) ρ L := by
  have key : ∀ m i ρ L, μ i = m → I i ρ L → Run S (.inLoop c :: ks) ρ L := by
    intro m
    induction m using Nat.strongRecOn with
    | _ m ih =>
      intro i ρ L hm hI a w ha hw
      exact (round i ρ L hI (fun j ρ' L' hlt hj => ih (μ j) (hm ▸ hlt) j ρ' L' rfl hj) a w ha hw).step fun _ _ _ => stepR_inLoop
  intro a w ha hw
  exact (round i ρ L h0 (fun j ρ' L' _ hj => key _ j ρ' L' rfl hj) a w ha hw).step fun _ _ _ => stepR_loop

/-- The same, what is known at each round's head told as a function. -/
theorem run_loopE {c : Code} {ι : Type} (μ : ι → Nat) (inv : ι → Prop) (env : ι → Env) (mem : ι → List HP) (i : ι) (h0 : inv i) (hs : Sub ρ (env i)) (hL : L = mem i)
    (round : ∀ i, inv i → (∀ j ρ', μ j < μ i → inv j → Sub ρ' (env j) → Run S (.inLoop c :: ks) ρ' (mem j)) → Run S (.code c :: .inLoop c :: ks) (env i) (mem i)) :
    Run S (.code (.loop c) :: ks) ρ L := by
  refine run_loop μ (fun i ρ L => inv i ∧ Sub ρ (env i) ∧ L = mem i) i ⟨h0, hs, hL⟩ ?_
  rintro i ρ L ⟨h1, h2, rfl⟩ next
  exact (round i h1 fun j ρ' hj hi hs => next j ρ' _ hj ⟨hi, hs, rfl⟩).sub h2

/-- A loop within its block: rounds, and what is known where it is left. -/
theorem run_while {id : Nat} {c : Code} {ι κ : Type} (μ : ι → Nat) (inv : ι → Prop) (env : ι → Env) (mem : ι → List HP) (out : κ → Prop) (env' : κ → Env) (mem' : κ → List HP) (i : ι) (h0 : inv i) (hs : Sub ρ (env i)) (hL : L = mem i)
    (round : ∀ i, inv i → (∀ j ρ', μ j < μ i → inv j → Sub ρ' (env j) → Run S (.inLoop c :: .inBlock id :: ks) ρ' (mem j)) → (∀ j ρ', out j → Sub ρ' (env' j) → Run S ks ρ' (mem' j)) →
      Run S (.code c :: .inLoop c :: .inBlock id :: ks) (env i) (mem i))
    (after : ∀ j, out j → Run S ks (env' j) (mem' j)) : Run S (.code (.block id (.loop c)) :: ks) ρ L := by
  refine run_block (run_loopE μ inv env mem i h0 hs hL fun i h1 next => ?_)
  exact round i h1 next fun j ρ' hj hs => (after j hj).sub hs

/-- What follows is shown once, for all the ways that lead there. -/
theorem run_cut {it : Item} {κ : Type} (out : κ → Prop) (env' : κ → Env) (mem' : κ → List HP) (after : ∀ j, out j → Run S ks (env' j) (mem' j))
    (body : (∀ j ρ', out j → Sub ρ' (env' j) → Run S ks ρ' (mem' j)) → Run S (it :: ks) ρ L) : Run S (it :: ks) ρ L :=
  body fun j _ hj hs => (after j hj).sub hs

/-! ### The ways out -/

/-- What a function's results are read as. -/
def resOf (ρ : Env) : List ResultVar → Option (List Value)
  | [] => some []
  | .tmp t :: r => match look ρ t, resOf ρ r with
    | some v, some l => some (v :: l)
    | _, _ => none
  | .cell .. :: _ => none
def packed : List Value → Value
  | [v] => v
  | l => .tuple l.toArray

end
end Go.PS
