/-
  Function values, loops over a function, regions whose every order is walked.
  Conditions: each rule's own.
-/
import Derived.Test.YtopkabhgkhjecaaGreatSlices
import Derived.RangeFuncRecord
import Derived.RangeFuncLeaves
namespace Go.PS
open Go

/-! ### Calls of function values -/
def CallV (P : Program) (f : Value) (args : Array Value) (w : World) (R : Value → World → Prop) : Prop :=
  match (do let d ← Deferred.ofValue f args; invoke d.target d.args : Sem Next).run P w with
  | .ok (.value v) w' => R v w'
  | .ok (.enter g as) w' => Calls P g as w' fun e w'' => ∃ v, e = .returned v ∧ R v w''
  | .ok (.round l g tmps assign body) w' => Rounds P l g tmps assign body w' R
  | _ => False
/-- What a function value does: with these arguments, where this is known, it hands back a value, and 'Q' says what and what is known then. -/
structure SpecV (P : Program) (G : World) (f : Value) (args : List Value) (L : List HP) (Q : Value → List HP → Prop) : Prop where
  run : ∀ w, Sat G w L → CallV P f args.toArray w fun v w' => ∃ L', Q v L' ∧ Sat G w' L'

theorem Rounds.mono {P : Program} {l : Nat} {f : FuncId} {tmps : Array Value} {assign body : Code} {w : World} {R R' : Value → World → Prop} (h : Rounds P l f tmps assign body w R) (hr : ∀ v w, R v w → R' v w) : Rounds P l f tmps assign body w R' := by
  intro b cs hk
  obtain ⟨m', ⟨c, cs', v, w', h1, h2, h3⟩, hs⟩ := h b cs hk
  exact ⟨m', ⟨c, cs', v, w', h1, h2, hr v w' h3⟩, hs⟩

section
variable {S : Setup} {ρ : Env} {L L' : List HP} {ty : TypeId} {ops : Array Oper} {pos : String} {after : Array Edge} {N : Env → List HP → Prop}

theorem k_callF {x : Operand} {args : List Operand} {ts : Array TypeId} {vs : List Value} {f : Value} {d : Nat} {Q : Value → List HP → Prop} (hx : ev ρ x = some f) (hv : evs ρ args = some vs) (hd : Nat.blt d S.n = true)
    (h : SpecV S.P S.G f vs L Q) (hn : ∀ v L', Q v L' → N ((d, v) :: ρ) L') :
    OpK S ops ⟨some d, .call { callee := .value x, args := args.toArray, argTypes := ts }, ty, pos, after, none⟩ ρ L N := by
  intro a w ha hw
  unfold OpA
  rw [if_pos wanted_none]
  have e : args.toArray.map a.eval = vs.toArray := Array.ext' (by simpa using evs_map ha hv)
  have h1 := h.run w hw
  unfold CallV at h1
  have e2 : (execOp a.eval ⟨some d, .call { callee := .value x, args := args.toArray, argTypes := ts }, ty, pos, after, none⟩).run S.P w =
      (do let d ← Deferred.ofValue f vs.toArray; invoke d.target d.args : Sem Next).run S.P w := by
    simp only [execOp, resolve, e, ha.ev hx]
  rw [e2]
  generalize (do let d ← Deferred.ofValue f vs.toArray; invoke d.target d.args : Sem Next).run S.P w = r at h1
  split at h1
  · obtain ⟨L', hq, hw'⟩ := h1
    exact ⟨_, L', ha.put (blt_lt hd) _, hw', hn _ L' hq⟩
  · refine h1.mono ?_
    rintro e w'' ⟨v, rfl, L', hq, hw'⟩
    exact ⟨_, L', ha.put (blt_lt hd) _, hw', hn _ L' hq⟩
  · refine Rounds.mono h1 ?_
    rintro v w'' ⟨L', hq, hw'⟩
    exact ⟨_, L', ha.put (blt_lt hd) _, hw', hn _ L' hq⟩
  · exact h1.elim
end

theorem SpecV.mono {P : Program} {G : World} {f : Value} {args : List Value} {L : List HP} {Q Q' : Value → List HP → Prop} (h : SpecV P G f args L Q) (hq : ∀ v L', Q v L' → Q' v L') : SpecV P G f args L Q' := by
  refine ⟨fun w hw => ?_⟩
  have h1 := h.run w hw
  unfold CallV at h1 ⊢
  generalize (do let d ← Deferred.ofValue f args.toArray; invoke d.target d.args : Sem Next).run P w = r at h1
  split at h1
  · obtain ⟨L', q, hw'⟩ := h1; exact ⟨L', hq _ _ q, hw'⟩
  · exact h1.mono fun e w'' ⟨v, he, L', q, hw'⟩ => ⟨v, he, L', hq _ _ q, hw'⟩
  · exact Rounds.mono h1 fun v w'' ⟨L', q, hw'⟩ => ⟨L', hq _ _ q, hw'⟩
  · exact h1.elim
theorem SpecV.mem {P : Program} {G : World} {f : Value} {args : List Value} {L L' : List HP} {Q : Value → List HP → Prop} (p : ∀ w, Sat G w L → Sat G w L') (h : SpecV P G f args L' Q) : SpecV P G f args L Q := ⟨fun w hw => h.run w (p w hw)⟩
theorem SpecV.perm {P : Program} {G : World} {f : Value} {args : List Value} {L L' : List HP} {Q : Value → List HP → Prop} (p : L.Perm L') (h : SpecV P G f args L' Q) : SpecV P G f args L Q := h.mem fun _ hw => hw.perm p

theorem specV_func {P : Program} {G : World} {f : FuncId} {us cap args : List Value} {L : List HP} {Q : Value → List HP → Prop} (hb : bodyT P f = true) (h : Spec P G f (us ++ args ++ cap) L Q) :
    SpecV P G (.func (.func f) us.toArray cap.toArray) args L Q := by
  refine ⟨fun w hw => ?_⟩
  unfold CallV
  simp only [Deferred.ofValue, Sem.run_bind, Sem.run_pure, Result.andThen_ok, invoke]
  rw [show (us.toArray ++ args.toArray ++ cap.toArray : Array Value) = (us ++ args ++ cap).toArray by simp, run_callFunc hb]
  refine (h.run w hw).mono ?_
  rintro e w' ⟨v, L', hq, rfl, hw'⟩
  exact ⟨v, rfl, L', hq, hw'⟩

/-! ### A loop's rounds -/
theorem sat_putObj {G w : World} {L : List HP} {b : Nat} {o o' : Obj} (H : Sat G w (Blk b o :: L)) : Sat G (w.putObj b o') (Blk b o' :: L) := by
  have hb := H.blk
  have hlt : b < w.heap.size := (Array.getElem?_eq_some_iff.1 hb).1
  exact H.set (World.putObj_heap_same hlt) (fun i hi => World.putObj_heap_other hi) rfl rfl rfl

def parEnv : List (Tmp × Value) → Env → Env
  | [], ρ => ρ
  | (t, v) :: r, ρ => parEnv r ((t, v) :: ρ)
theorem agr_par {n : Nat} {ds : List Deferred} : ∀ (l : List (Tmp × Value)) (tmps : Array Value) (ρ : Env), (l.all fun p => Nat.blt p.1 n) = true → Agr { tmps := tmps, defers := ds } n ds ρ →
    Agr { tmps := l.foldl (fun tmps p => tmps.setIfInBounds p.1 p.2) tmps, defers := ds } n ds (parEnv l ρ)
  | [], _, _, _, h => h
  | (t, v) :: r, tmps, ρ, hl, h => by
    simp only [List.all_cons, Bool.and_eq_true] at hl
    have := h.put (blt_lt hl.1) v
    exact agr_par r _ _ hl.2 this

/-- A loop's record between its rounds. -/
structure LoopOf (r : Loop) (k : FuncId) (ps : List Tmp) (assign body : Code) (n : Nat) (ρ : Env) : Prop where
  fn : r.fn = k
  params : r.params = ps.toArray
  assign : r.assign = assign
  body : r.body = body
  ready : r.state = .ready
  pend : r.pending = none
  agr : Agr { tmps := r.tmps, defers := [] } n [] ρ
theorem LoopOf.back {r : Loop} {k : FuncId} {ps : List Tmp} {assign body : Code} {n : Nat} {ρ : Env} (h : LoopOf r k ps assign body n ρ) : ({ r with state := .ready, pending := none } : Loop) = r := by
  have h1 := h.ready
  have h2 := h.pend
  cases r
  simp only at h1 h2
  subst h1 h2; rfl

theorem specV_round {P : Program} {G : World} {l n : Nat} {r : Loop} {k : FuncId} {ps : List Tmp} {assign body : Code} {args : List Value} {L : List HP} {Q : Value → List HP → Prop} {ρ : Env} (hr : LoopOf r k ps assign body n ρ) (hlen : Nat.beq args.length ps.length = true)
    (hlt : (ps.all fun t => Nat.blt t n) = true)
    (h : Run ⟨P, G, .round k l (fun v w => ∃ L', Q v L' ∧ Sat G w L'), n, []⟩ [.code assign, .beginRound, .code body] (parEnv (ps.zip args) ρ) (Blk l (.loop r) :: L)) :
    SpecV P G (.func (.yield l) #[] #[]) args (Blk l (.loop r) :: L) Q := by
  refine ⟨fun w hw => ?_⟩
  have hlen' : args.length = ps.length := Nat.eq_of_beq_eq_true hlen
  have hp := hr.params
  unfold CallV
  simp only [Deferred.ofValue, Sem.run_bind, Sem.run_pure, Result.andThen_ok, invoke]
  rw [show (#[] ++ args.toArray : Array Value) = args.toArray by simp, run_yield hw.blk (by simp [hp, hlen'])]
  have hfold : ((r.params.zip args.toArray).foldl (fun tmps (x : Tmp × Value) => tmps.setIfInBounds x.1 x.2) r.tmps) = (ps.zip args).foldl (fun tmps p => tmps.setIfInBounds p.1 p.2) r.tmps := by
    rw [hp]; simp
  have hagr := agr_par (n := n) (ds := []) (ps.zip args) r.tmps ρ (by
    rw [List.all_eq_true] at hlt ⊢
    intro p hpm
    exact hlt p.1 (List.of_mem_zip hpm).1) hr.agr
  rw [← hfold] at hagr
  simp only
  rw [hr.fn, hr.assign, hr.body]
  exact h _ w hagr hw

section
variable {P : Program} {G : World} {f : FuncId} {l n : Nat} {ds : List Deferred} {ks : List Item} {ρ : Env} {L : List HP} {r : Loop}
theorem run_beginRound' {R : Value → World → Prop} (hst : r.state = .ready) (h : Run ⟨P, G, .round f l R, n, ds⟩ ks ρ (Blk l (.loop { r with state := .busy }) :: L)) :
    Run ⟨P, G, .round f l R, n, ds⟩ (.beginRound :: ks) ρ (Blk l (.loop r) :: L) := fun a w ha hw b cs hk => by
  obtain ⟨m', hd, hs⟩ := h a _ ha (sat_putObj hw) b cs hk
  exact ⟨m', hd, .head (stepR_beginRound hk.2.2.1 (Go.run_beginRound hw.blk hst)) hs⟩
theorem run_roundBack {Q : Value → List HP → Prop} {k : FuncId} {ps : List Tmp} {assign body : Code} {m : Nat} {ρ' : Env} (hr : LoopOf r k ps assign body m ρ') (h : Q (.bool true) (Blk l (.loop r) :: L)) :
    Run ⟨P, G, .round f l (fun v w => ∃ L', Q v L' ∧ Sat G w L'), n, ds⟩ [] ρ (Blk l (.loop { r with state := .busy }) :: L) := fun a w ha hw b cs hk => by
  obtain ⟨h1, h2, h3, h4⟩ := hk
  cases cs with
  | nil => exact absurd rfl h4
  | cons c cs =>
    have hs := sat_putObj (o' := .loop { r with state := .ready, pending := none }) hw
    rw [hr.back] at hs
    have he := Go.run_endRound (P := P) none hw.blk
    simp only [Option.isNone_none, if_true] at he
    rw [hr.back] at he
    exact ⟨_, ⟨c, cs, _, _, rfl, rfl, _, h, hs⟩, .one (stepR_round_end h3 h2 he)⟩
theorem run_roundEnd {Q : Value → List HP → Prop} (h : Q (.bool true) (Blk l (.loop { r with state := .ready, pending := none }) :: L)) :
    Run ⟨P, G, .round f l (fun v w => ∃ L', Q v L' ∧ Sat G w L'), n, ds⟩ [] ρ (Blk l (.loop r) :: L) := fun a w ha hw b cs hk => by
  obtain ⟨h1, h2, h3, h4⟩ := hk
  cases cs with
  | nil => exact absurd rfl h4
  | cons c cs =>
    exact ⟨_, ⟨c, cs, _, _, rfl, rfl, _, h, sat_putObj hw⟩, .one (stepR_round_end h3 h2 (Go.run_endRound none hw.blk))⟩
theorem run_roundRet {Q : Value → List HP → Prop} (h : Q (.bool false) (Blk l (.loop { r with state := .done, pending := some .ret }) :: L)) :
    Run ⟨P, G, .round f l (fun v w => ∃ L', Q v L' ∧ Sat G w L'), n, ds⟩ (.code .ret :: ks) ρ (Blk l (.loop r) :: L) := fun a w ha hw b cs hk => by
  obtain ⟨h1, h2, h3, h4⟩ := hk
  cases cs with
  | nil => exact absurd rfl h4
  | cons c cs =>
    exact ⟨_, ⟨c, cs, _, _, rfl, rfl, _, h, sat_putObj hw⟩, .one (stepR_round_ret h3 h2 (Go.run_endRound (some .ret) hw.blk))⟩
theorem run_roundExit {Q : Value → List HP → Prop} {id : Nat} (hx : exitTo id ks = none) (h : Q (.bool false) (Blk l (.loop { r with state := .done, pending := some (.exit id) }) :: L)) :
    Run ⟨P, G, .round f l (fun v w => ∃ L', Q v L' ∧ Sat G w L'), n, ds⟩ (.code (.exit id) :: ks) ρ (Blk l (.loop r) :: L) := fun a w ha hw b cs hk => by
  obtain ⟨h1, h2, h3, h4⟩ := hk
  cases cs with
  | nil => exact absurd rfl h4
  | cons c cs =>
    exact ⟨_, ⟨c, cs, _, _, rfl, rfl, _, h, sat_putObj hw⟩, .one (stepR_round_exit h3 h2 hx (Go.run_endRound (some (.exit id)) hw.blk))⟩

/-! ### The statement -/
abbrev mark (r : Nat) : Deferred := { target := .collected r, args := #[] }
theorem run_rangeFunc {k : FuncId} {R : Ending → World → Prop} {g : Operand} {ps : List Tmp} {assign body : Code} {us cap : List Value} (hg : ev ρ g = some (.func (.func f) us.toArray cap.toArray)) (hb : bodyT P f = true)
    (h : ∀ l r d, LoopOf r k ps assign body n ρ →
      Spec P G f (us ++ [.func (.yield l) #[] #[]] ++ cap) (Blk l (.loop r) :: Blk d (.deferred (some [])) :: L)
        fun _ L' => ∃ r' L'', L' = Blk l (.loop r') :: L'' ∧ r'.state ≠ .busy ∧
          Run ⟨P, G, .fn k R, n, mark d :: ds⟩ ((r'.pending.map Item.code).toList ++ ks) ρ L'') :
    Run ⟨P, G, .fn k R, n, ds⟩ (.code (.rangeFunc g ps.toArray assign body) :: ks) ρ L := fun a w ha hw b cs hk => by
  obtain ⟨h1, h2, h3⟩ := hk
  have hent := run_enterLoop_outer (P := P) (w := w) b.fn a.tmps ps.toArray assign body
  rw [h1] at hent
  have hs1 : Sat G (w.alloc (.deferred (some []))) (Blk w.heap.size (.deferred (some [])) :: L) := hw.new _ rfl rfl rfl rfl
  have hs2 := hs1.new (w' := (w.alloc (.deferred (some []))).alloc (.loop { state := .ready, pending := none, fn := k, tmps := a.tmps, params := ps.toArray, assign, body, defers := w.heap.size })) _ rfl rfl rfl rfl
  have hsz : (w.alloc (.deferred (some []))).heap.size = w.heap.size + 1 := World.size_alloc ..
  rw [hsz] at hs2
  generalize hW : (w.alloc (.deferred (some []))).alloc (.loop { state := .ready, pending := none, fn := k, tmps := a.tmps, params := ps.toArray, assign, body, defers := w.heap.size }) = W at *
  have hev := ha.ev hg
  have hres : (resolve a.eval (rangeCall g (w.heap.size + 1)) 0).run P W = .ok { target := .fn (.func f) cap.toArray, args := us.toArray ++ #[.func (.yield (w.heap.size + 1)) #[] #[]] } W := by
    have hc : a.eval (.const (.func (.yield (w.heap.size + 1)) #[] #[])) = .func (.yield (w.heap.size + 1)) #[] #[] := rfl
    simp [resolve, hev, hc, Deferred.ofValue]
  have hinv : (invoke (.fn (.func f) cap.toArray) (us.toArray ++ #[Value.func (.yield (w.heap.size + 1)) #[] #[]])).run P W = .ok (.enter f (us ++ [Value.func (.yield (w.heap.size + 1)) #[] #[]] ++ cap).toArray) W := by
    simp only [invoke]
    rw [show (us.toArray ++ #[Value.func (.yield (w.heap.size + 1)) #[] #[]] ++ cap.toArray : Array Value) = (us ++ [Value.func (.yield (w.heap.size + 1)) #[] #[]] ++ cap).toArray by simp, run_callFunc hb]
  have henter := stepR_rangeFunc (P := P) (b := b) (a := a) (k := ks) (cs := cs) (w := w) (by rw [h3, h1]; exact hent) hres hinv
  have hagr : Agr { tmps := a.tmps, defers := [] } n [] ρ := ⟨ha.size, rfl, ha.at_⟩
  obtain ⟨e, w₃, fr, ⟨v, L', ⟨r', L'', rfl, hst, hrun⟩, he, hw3⟩, hsteps, hfn, hleave⟩ := (h (w.heap.size + 1) _ w.heap.size ⟨rfl, rfl, rfl, rfl, rfl, rfl, hagr⟩).run W hs2 (b.atR { a with defers := [mark w.heap.size] ++ a.defers } (.inRangeFunc (w.heap.size + 1) :: ks) :: cs)
  subst he
  have hend := stepR_endRangeFunc (P := P) (b := b) (a := { a with defers := [mark w.heap.size] ++ a.defers }) (k := ks) (cs := cs) (Go.run_endLoop hw3.blk hst)
  have ha' : Agr { a with defers := [mark w.heap.size] ++ a.defers } n (mark w.heap.size :: ds) ρ := ⟨ha.size, by simp [ha.ds], ha.at_⟩
  obtain ⟨m', hd, hs⟩ := hrun _ _ ha' (sat_putObj hw3).tail b cs ⟨h1, h2, h3⟩
  refine ⟨m', hd, .head henter (Steps.trans hsteps (.head ?_ (.head hend hs)))⟩
  rw [← finish_atR_inRangeFunc (w.heap.size + 1) v]
  exact step_leave_returned hleave

/-! ### Leaving with marks -/
theorem leave_marks {R : Ending → World → Prop} {fn : Func} {rs : List ResultVar} {vs : List Value} {L₀ : List HP} (hf : P.funcs[f]? = some fn) (hr : fn.results = rs.toArray) (hv : resOf ρ rs = some vs) (hR : ∀ w, Sat G w L₀ → R (.returned (packed vs)) w)
    {a : Act} {b : Frame} {cs : List Frame} {n : Nat} (hk : (Kont.fn f R).ok b cs) (ks : List Item) (ha : Agr { a with defers := [] } n [] ρ) : ∀ (ms : List Nat) (w : World), a.defers = ms.map mark → Sat G w (ms.map (fun d => Blk d (.deferred (some []))) ++ L₀) →
    ∃ m', (Kont.fn f R).Done P cs m' ∧ Steps P (lone { b.atR a ks with mode := .returning } cs w) m' := by
  intro ms
  induction ms generalizing a with
  | nil =>
    intro w hds hw
    have ha' : Agr a n [] ρ := ⟨ha.size, hds, ha.at_⟩
    exact ⟨_, leave_ret hf hr hv hR ha' hw hk ks, Steps.refl _ _⟩
  | cons d ms ih =>
    intro w hds hw
    have hk' := Go.run_takeDeferred (P := P) hw.blk
    have hst := step_collected (P := P) (fr := { b.atR a ks with mode := .returning }) (cs := cs) (d := mark d) (ds := ms.map mark) (by simp) (by simpa [Frame.atR] using hds) rfl hk'
    obtain ⟨m', hd, hs⟩ := ih (a := { a with defers := ms.map mark }) ha _ rfl (sat_putObj (o' := .deferred none) hw).tail
    exact ⟨m', hd, .head hst hs⟩
theorem ret_specM {fn : Func} {rs : List ResultVar} {vs : List Value} {Q : Value → List HP → Prop} {L₀ : List HP} (ms : List Nat) (hf : P.funcs[f]? = some fn) (hr : fn.results = rs.toArray) (hv : resOf ρ rs = some vs) (hQ : Q (packed vs) L₀)
    (hL : ∀ w, Sat G w L → Sat G w (ms.map (fun d => Blk d (.deferred (some []))) ++ L₀)) :
    Run ⟨P, G, .fn f (fun e w' => ∃ v L', Q v L' ∧ e = .returned v ∧ Sat G w' L'), n, ms.map mark⟩ (.code .ret :: ks) ρ L := fun a w ha hw b cs hk => by
  obtain ⟨m', hd, hs⟩ := leave_marks (P := P) (f := f) (b := b) (cs := cs) (a := a) (n := n) (R := fun e w' => ∃ v L', Q v L' ∧ e = .returned v ∧ Sat G w' L') hf hr hv (fun _ hw => ⟨_, L₀, hQ, rfl, hw⟩) hk (.code .ret :: ks) ⟨ha.size, rfl, ha.at_⟩ ms w ha.ds (hL w hw)
  exact ⟨m', hd, .head (stepR_ret hk.2.2) hs⟩
theorem end_specM {fn : Func} {rs : List ResultVar} {vs : List Value} {Q : Value → List HP → Prop} {L₀ : List HP} (ms : List Nat) (hf : P.funcs[f]? = some fn) (hr : fn.results = rs.toArray) (hv : resOf ρ rs = some vs) (hQ : Q (packed vs) L₀)
    (hL : ∀ w, Sat G w L → Sat G w (ms.map (fun d => Blk d (.deferred (some []))) ++ L₀)) :
    Run ⟨P, G, .fn f (fun e w' => ∃ v L', Q v L' ∧ e = .returned v ∧ Sat G w' L'), n, ms.map mark⟩ [] ρ L := fun a w ha hw b cs hk => by
  obtain ⟨m', hd, hs⟩ := leave_marks (P := P) (f := f) (b := b) (cs := cs) (a := a) (n := n) (R := fun e w' => ∃ v L', Q v L' ∧ e = .returned v ∧ Sat G w' L') hf hr hv (fun _ hw => ⟨_, L₀, hQ, rfl, hw⟩) hk [] ⟨ha.size, rfl, ha.at_⟩ ms w ha.ds (hL w hw)
  exact ⟨m', hd, .head (stepR_end hk.2.2) hs⟩
end

/-- The n-th to the front. -/
def pickAt {α : Type _} : Nat → List α → List α
  | 0, l => l
  | _ + 1, [] => []
  | n + 1, a :: l => match pickAt n l with
    | [] => [a]
    | b :: r => b :: a :: r
theorem pickAt_perm {α : Type _} : ∀ (n : Nat) (l : List α), l.Perm (pickAt n l)
  | 0, _ => .refl _
  | _ + 1, [] => .refl _
  | n + 1, a :: l => by
    have h := pickAt_perm n l
    unfold pickAt
    split
    · rename_i e; rw [e] at h; exact h.cons a
    · rename_i b r e; rw [e] at h; exact (h.cons a).trans (.swap _ _ _)
def permP {α : Type _} : List Nat → List α → List α
  | [], l => l
  | n :: ns, l => match pickAt n l with
    | [] => []
    | b :: r => b :: permP ns r
theorem perm_pick {α : Type _} : ∀ (ns : List Nat) (l : List α), l.Perm (permP ns l)
  | [], _ => .refl _
  | n :: ns, l => by
    have h := pickAt_perm n l
    unfold permP
    split
    · rename_i e; rw [e] at h; exact h
    · rename_i b r e; rw [e] at h; exact h.trans ((perm_pick ns r).cons b)
theorem Sat.drop' {G w : World} : ∀ (k : Nat) {l : List HP}, Sat G w l → Sat G w (l.drop k)
  | 0, _, h => h
  | _ + 1, [], h => h
  | k + 1, _ :: _, h => Sat.drop' k h.tail
/-- Some of what is known, in another order; the others are let go. -/
theorem sat_pick {G w : World} {l : List HP} (ns : List Nat) (k : Nat) (H : Sat G w l) : Sat G w ((permP ns l).take ns.length ++ (permP ns l).drop (ns.length + k)) := by
  have h1 := H.perm (perm_pick ns l)
  generalize permP ns l = p at *
  generalize ns.length = n
  have h2 : p = p.take n ++ (p.drop n) := (List.take_append_drop n p).symm
  rw [h2] at h1
  have h3 := (h1.append_comm)
  have h4 : Sat G w ((p.drop n ++ p.take n).drop (min k (p.drop n).length)) := h3.drop' _
  have h5 : (p.drop n ++ p.take n).drop (min k (p.drop n).length) = p.drop (n + k) ++ p.take n := by
    rw [List.drop_append_of_le_length (by omega)]
    congr 1
    rw [List.drop_drop]
    by_cases hk : k ≤ (p.drop n).length
    · rw [Nat.min_eq_left hk]
    · rw [Nat.min_eq_right (by omega), List.drop_of_length_le (by simp; omega), List.drop_of_length_le (by simp at hk ⊢; omega)]
  rw [h5] at h4
  exact h4.append_comm
theorem perm3 {A B C : HP} {X : List HP} : (A :: B :: C :: X).Perm (B :: C :: A :: X) := (List.Perm.swap _ _ _).trans (.cons _ (.swap _ _ _))
theorem perm5 {A B C D E : HP} {X : List HP} : (A :: B :: C :: D :: E :: X).Perm (B :: C :: D :: E :: A :: X) := (List.perm_middle (l₁ := [B, C, D, E])).symm

/-! ### Every order -/
section
variable {S : Setup} {ρ : Env} {L : List HP} {ks : List Item}
def AnyR (S : Setup) (ops : Array Oper) (N : Env → List HP → Prop) : Nat → Array Bool → Env → List HP → Prop
  | 0, _ => N
  | f + 1, listed => fun ρ L => Region.ready .any ops listed ≠ [] ∧ ∀ i ∈ Region.ready .any ops listed, ∃ o, ops[i]? = some o ∧ OpK S ops o ρ L (AnyR S ops N f (listed.setIfInBounds i true))

theorem runs_of_anyR {ops : Array Oper} {N : Env → List HP → Prop} (hN : ∀ ρ L, N ρ L → Run S ks ρ L) : ∀ (f t : Nat) (listed : Array Bool) {ρ : Env} {L : List HP}, AnyR S ops N f listed ρ L →
    Run S (.inRegion ops (Region.linearise.go .any ops f t listed []) :: ks) ρ L
  | 0, t, listed, ρ, L, h => fun a w ha hw => by
    simp only [Region.linearise.go, List.reverse_nil]
    exact (hN ρ L h a w ha hw).step fun _ _ _ => stepR_region_end
  | f + 1, t, listed, ρ, L, h => fun a w ha hw => by
    obtain ⟨i, hi, hmem⟩ := pick_of (t := t) h.1
    rw [go_pick hi]
    obtain ⟨o, ho, hop⟩ := h.2 i hmem
    refine runs_op ho (hop a w ha hw) ?_
    rintro a' w' ⟨ρ', L', ha', hw', hn⟩
    exact runs_of_anyR hN f _ _ hn a' w' ha' hw'

/-- A region that draws its order: each order is walked, and what is known behind each of them serves what follows. -/
theorem run_any {id : Nat} {l : List Oper} {κ : Type} (out : κ → Prop) (env' : κ → Env) (mem' : κ → List HP) (hm : S.P.follows .mixedOrders = true)
    (h : AnyR S l.toArray (fun ρ' L' => ∃ j, out j ∧ Sub ρ' (env' j) ∧ ∀ w, Sat S.G w L' → Sat S.G w (mem' j)) l.length (Array.replicate l.length false) ρ L)
    (after : ∀ j, out j → Run S ks (env' j) (mem' j)) :
    Run S (.code (.region id l.toArray true) :: ks) ρ L := by
  intro a w ha hw b cs hk
  have hst := stepR_region_draw (P := S.P) (b := b) (a := a) (k := ks) (cs := cs) (w := w) (ops := l.toArray) (id := id)
  obtain ⟨m', hd, hs⟩ := runs_of_anyR (S := S) (ks := ks) (fun ρ L ⟨j, hj, hsub, hmem⟩ => ((after j hj).mem hmem).sub hsub) l.length (w.tape w.drawn (.order b.fn id)) _ h a _ ha (hw.drawn (w.drawn + 1)) b cs hk
  refine ⟨m', hd, .head hst ?_⟩
  simp only [Region.schedule, hm, Bool.true_or, if_true, Region.linearise]
  rw [show l.toArray.size = l.length by simp]
  exact hs
theorem any1 {ops : Array Oper} {N : Env → List HP → Prop} {f : Nat} {listed : Array Bool} (i : Nat) {o : Oper} (hr : Region.ready .any ops listed = [i]) (ho : ops[i]? = some o) (h : OpK S ops o ρ L (AnyR S ops N f (listed.setIfInBounds i true))) : AnyR S ops N (f + 1) listed ρ L := by
  refine ⟨by rw [hr]; simp, fun k hk => ?_⟩
  rw [hr] at hk
  rw [List.mem_singleton.1 hk]
  exact ⟨o, ho, h⟩
theorem any2 {ops : Array Oper} {N : Env → List HP → Prop} {f : Nat} {listed : Array Bool} (i j : Nat) {o u : Oper} (hr : Region.ready .any ops listed = [i, j]) (ho : ops[i]? = some o) (hu : ops[j]? = some u)
    (h : OpK S ops o ρ L (AnyR S ops N f (listed.setIfInBounds i true))) (h' : OpK S ops u ρ L (AnyR S ops N f (listed.setIfInBounds j true))) : AnyR S ops N (f + 1) listed ρ L := by
  refine ⟨by rw [hr]; simp, fun k hk => ?_⟩
  rw [hr] at hk
  rcases List.mem_cons.1 hk with rfl | hk
  · exact ⟨o, ho, h⟩
  · rw [List.mem_singleton.1 hk]
    exact ⟨u, hu, h'⟩
theorem any3 {ops : Array Oper} {N : Env → List HP → Prop} {f : Nat} {listed : Array Bool} (i j k : Nat) {o u x : Oper} (hr : Region.ready .any ops listed = [i, j, k]) (ho : ops[i]? = some o) (hu : ops[j]? = some u) (hx : ops[k]? = some x)
    (h : OpK S ops o ρ L (AnyR S ops N f (listed.setIfInBounds i true))) (h' : OpK S ops u ρ L (AnyR S ops N f (listed.setIfInBounds j true))) (h'' : OpK S ops x ρ L (AnyR S ops N f (listed.setIfInBounds k true))) : AnyR S ops N (f + 1) listed ρ L := by
  refine ⟨by rw [hr]; simp, fun q hq => ?_⟩
  rw [hr] at hq
  simp only [List.mem_cons, List.not_mem_nil, or_false] at hq
  rcases hq with rfl | rfl | rfl
  · exact ⟨o, ho, h⟩
  · exact ⟨u, hu, h'⟩
  · exact ⟨x, hx, h''⟩
theorem anyEnd {ops : Array Oper} {N : Env → List HP → Prop} {listed : Array Bool} (h : N ρ L) : AnyR S ops N 0 listed ρ L := h
end
end Go.PS
