/-
  Methods of interface values, assertions of types, results that lie in cells.
  Conditions: each rule's own.
-/
import Derived.Test.YtopkabhgkhjecaaGreatMaps
import Derived.Laws.IdiomStrings
namespace Go.PS
open Go

section
variable {S : Setup} {ρ : Env} {L L' : List HP} {ty : TypeId} {ops : Array Oper} {pos : String} {after : Array Edge} {N : Env → List HP → Prop}

theorem k_invoke {r : Operand} {name : String} {args : List Operand} {ts : Array TypeId} {t : TypeId} {rv : Value} {vs : List Value} {d : Nat} {Q : Value → List HP → Prop} (f : FuncId) (hx : ev ρ r = some (.iface t rv)) (hv : evs ρ args = some vs)
    (hm : ∀ rv w, (method (S.P.types.size + Made.depth) t rv name).run S.P w = .ok (f, rv) w) (hd : Nat.blt d S.n = true) (hb : bodyT S.P f = true)
    (h : Spec S.P S.G f (rv :: vs) L Q) (hn : ∀ v L', Q v L' → N ((d, v) :: ρ) L') :
    OpK S ops ⟨some d, .call { callee := .invoke r name, args := args.toArray, argTypes := ts }, ty, pos, after, none⟩ ρ L N := by
  intro a w ha hw
  unfold OpA
  rw [if_pos wanted_none]
  have e : args.toArray.map a.eval = vs.toArray := Array.ext' (by simpa using evs_map ha hv)
  have hr : (execOp a.eval ⟨some d, .call { callee := .invoke r name, args := args.toArray, argTypes := ts }, ty, pos, after, none⟩).run S.P w = .ok (.enter f (rv :: vs).toArray) w := by
    have e0 : (#[Value.iface t rv] ++ vs.toArray : Array Value)[0]? = some (.iface t rv) := by simp
    have e1 : (#[Value.iface t rv] ++ vs.toArray : Array Value).extract 1 (#[Value.iface t rv] ++ vs.toArray : Array Value).size = vs.toArray := by
      apply Array.ext'; simp
    have e2 : (#[rv] ++ vs.toArray : Array Value) = (rv :: vs).toArray := by simp
    simp only [execOp, resolve, e, ha.ev hx, Sem.run_bind, Sem.run_pure, Result.andThen_ok, invoke, e0, e1, callMethod, run_program, hm, e2, run_callFunc hb]
  rw [hr]
  exact upon_call rfl (blt_lt hd) ha hw h hn

theorem ev_assertT {x : Operand} {xt t : TypeId} {v : Value} (hx : ev ρ x = some (.iface t v)) (ht : concreteT S.P t = true) : Ev S (.typeAssert x xt t true) ty ρ L (.tuple #[v, .bool true]) := by
  intro a w _ _ _ _ ha hw
  unfold concreteT at ht
  cases hu : S.P.underlying t with
  | none => rw [hu] at ht; cases ht
  | some d =>
    rw [hu] at ht
    simp only [execOp, ha.ev hx, Instr.typeAssert, Sem.run_bind, run_underlying t hu, Result.andThen_ok]
    cases d <;> first | (simp; done) | cases ht

/-- A field of a struct in hand. -/
def fieldV (P : Program) (s f fo : Nat) : Bool := match P.underlying s with
  | some (.struct fs) => (match fs[f]? with | some fd => fd.offset == fo && plainT P fd.type | none => false)
  | _ => false
theorem ev_field {x : Operand} {s f : Nat} {c : Array Value} {v : Value} (fo : Nat) (hx : ev ρ x = some (.agg c)) [hc : GetC c fo v] (hf : fieldV S.P s f fo = true) : Ev S (.field s x f) ty ρ L v := by
  intro a w _ _ _ _ ha hw
  unfold fieldV at hf
  split at hf
  · rename_i fs hu
    split at hf
    · rename_i fd hfd
      simp only [Bool.and_eq_true, beq_iff_eq] at hf
      obtain ⟨rfl, hp⟩ := hf
      have hpart : (part fd.type c fd.offset).run S.P w = .ok v w := by
        simp only [part, Sem.run_bind, run_isAgg_plain hp, Result.andThen_ok, Bool.false_eq_true, if_false, hc.eq, Sem.run_pure]
      simp only [execOp, ha.ev hx, Instr.field, Sem.run_bind, run_underlying s hu, Result.andThen_ok, hfd, asAgg, Sem.run_pure, hpart]
    · cases hf
  · cases hf

/-- A text of zeros. -/
def zerosS (n : Nat) : ByteArray := ⟨(List.replicate n (0 : UInt8)).toArray⟩
def bytesT' (P : Program) (s : TypeId) : Bool := match P.underlying s with
  | some (.slice e) => (match P.underlying e with | some (.int .u8) => true | _ => false)
  | _ => false
theorem ev_convZeros {x : Operand} {s d b n cap : Nat} (hx : ev ρ x = some (.slice (some ⟨b, 0, none⟩) n cap)) [hr : Reads S.G L b (Array.replicate n (.int .u8 0))] (hs : bytesT' S.P s = true) (hd : stringT S.P d = true) : Ev S (.convert s d x) ty ρ L (.string (zerosS n)) := by
  intro a w _ _ _ _ ha hw
  obtain ⟨T, fz, hb⟩ := hr.read w hw
  unfold bytesT' at hs
  split at hs
  · rename_i e hu
    split at hs
    · rename_i he
      have := run_convert_bytes_back (P := S.P) w s d e ⟨b, 0, none⟩ cap (List.replicate n (0 : UInt8)) hu he (stringT_eq hd) (fun j hj => by
        rw [add_off, cell_of hb]
        have hj' : j < n := by simpa using hj
        simp [hj'])
      rw [List.length_replicate] at this
      simp only [execOp, ha.ev hx, Sem.run_bind, this, Result.andThen_ok, Sem.run_pure]
      rfl
    · cases hs
  · cases hs

/-! ### Results that lie in cells -/
/-- What the results are read as. -/
def ResR (P : Program) (G : World) (L : List HP) (ρ : Env) : List ResultVar → List Value → Prop
  | [], vs => vs = []
  | .tmp t :: r, vs => ∃ v l, vs = v :: l ∧ look ρ t = some v ∧ ResR P G L ρ r l
  | .cell x t :: r, vs => ∃ p v l, vs = v :: l ∧ look ρ x = some (.pointer (some p)) ∧ (∀ w, Sat G w L → (loadVar t p).run P w = .ok v w) ∧ ResR P G L ρ r l
theorem resR_tmp {P : Program} {G : World} {t : Nat} {r : List ResultVar} {v : Value} {l : List Value} (h : look ρ t = some v) (hr : ResR P G L ρ r l) : ResR P G L ρ (.tmp t :: r) (v :: l) := ⟨v, l, rfl, h, hr⟩
theorem resR_cell {P : Program} {G : World} {x t b : Nat} {r : List ResultVar} {c : Array Value} {l : List Value} (h : look ρ x = some (.pointer (some ⟨b, 0, none⟩))) [hb : Reads G L b c] (ht : aggT P t c.size = true) (hr : ResR P G L ρ r l) : ResR P G L ρ (.cell x t :: r) (.agg c :: l) := by
  refine ⟨_, _, l, rfl, h, fun w hw => ?_, hr⟩
  obtain ⟨T, fz, hbw⟩ := hb.read w hw
  have e : c.extract 0 (0 + c.size) = c := by simp
  simp only [loadVar, Sem.run_bind, run_isAgg_agg ht, Result.andThen_ok, run_sizeOf (sizeT_of_agg ht), if_true, run_loadCells_blk hbw (show 0 + c.size ≤ c.size by omega), e, Sem.run_pure]
theorem resR_nil {P : Program} {G : World} : ResR P G L ρ [] [] := rfl

theorem run_resultsR {P : Program} {G : World} {a : Act} {n : Nat} {ds : List Deferred} {w : World} {fn : Func} {rs : List ResultVar} (ha : Agr a n ds ρ) (hw : Sat G w L) (hr : fn.results = rs.toArray) : ∀ {vs : List Value}, ResR P G L ρ rs vs → (results fn a.tmps).run P w = .ok (packed vs) w := by
  intro vs hv
  have key : ∀ (rs : List ResultVar) (vs : List Value), ResR P G L ρ rs vs →
      ((rs.mapM fun | .tmp t => pure (a.tmps.getD t undef) | .cell x t => do loadVar t (← asAddr (a.tmps.getD x undef))) : Sem (List Value)).run P w = .ok vs w := by
    intro rs
    induction rs with
    | nil => intro vs h; rw [show vs = [] from h]; rfl
    | cons r rs ih =>
      intro vs h
      rw [List.mapM_cons]
      cases r with
      | cell x t =>
        obtain ⟨p, v, l, rfl, h1, h2, h3⟩ := h
        have hx := ha.at_ x _ h1
        have has : (asAddr (.pointer (some p))).run P w = .ok p w := rfl
        simp only [Sem.run_bind, hx, has, Result.andThen_ok, h2 w hw]
        rw [ih l h3]; rfl
      | tmp t =>
        obtain ⟨v, l, rfl, h1, h2⟩ := h
        simp only [Sem.run_bind, Sem.run_pure, Result.andThen_ok, ha.at_ t v h1]
        rw [ih l h2]; rfl
  unfold results
  rw [hr, Array.mapM_eq_mapM_toList]
  simp only [Sem.run_bind, Sem.run_map]
  refine Eq.trans (congrArg (fun (r : Result (List Value)) => (r.andThen _).andThen _) (key rs vs hv)) ?_
  simp only [Result.andThen_ok, Sem.run_pure]
  match vs with
  | [] => rfl
  | [v] => rfl
  | _ :: _ :: _ => rfl
end

section
variable {P : Program} {G : World} {f : FuncId} {n : Nat} {R : Ending → World → Prop} {ks : List Item} {ρ : Env} {L : List HP}
theorem ret_specR {fn : Func} {rs : List ResultVar} {vs : List Value} {Q : Value → List HP → Prop} (hf : P.funcs[f]? = some fn) (hr : fn.results = rs.toArray) (hv : ResR P G L ρ rs vs) (hQ : Q (packed vs) L) :
    Run ⟨P, G, .fn f (fun e w' => ∃ v L', Q v L' ∧ e = .returned v ∧ Sat G w' L'), n, []⟩ (.code .ret :: ks) ρ L := fun a w ha hw b cs hk => by
  obtain ⟨e1, e2, e3⟩ := hk
  refine ⟨_, ⟨.returned (packed vs), w, { b.atR a (.code .ret :: ks) with mode := .returning }, ⟨_, L, hQ, rfl, hw⟩, (fun h => by cases h), rfl, e1, rfl, ha.ds, e2, fn, ?_, ?_⟩, .one (stepR_ret e3)⟩
  · show P.funcs[b.fn]? = some fn
    rw [e1]; exact hf
  · exact run_resultsR ha hw hr hv
end
end Go.PS
