/-
  Two candidates, compared as structs.
  Conditions: each rule's own.
-/
import Derived.Test.YtopkabhgkhjecaaGreatPoolW
import Derived.Laws.StructEq
namespace Go.PS
open Go Go.Proofs Go.Shelf
set_option maxRecDepth 10000

section
variable {G : World} {K : Kont} {n : Nat} {ds : List Ending} {ρ : Env} {L : List HP}
theorem run_partStr {P : Program} {w : World} {e off : Nat} {xs : Array Value} {a : ByteArray} (h : P.underlying e = some .string) (hx : xs[off]? = some (.string a)) : (part e xs off).run P w = .ok (.string a) w := by
  simp [part, isAgg, run_underlying e h, hx]
theorem run_partInt {P : Program} {w : World} {e off : Nat} {q k : IntKind} {xs : Array Value} {a : Int} (h : P.underlying e = some (.int q)) (hx : xs[off]? = some (.int k a)) : (part e xs off).run P w = .ok (.int k a) w := by
  simp [part, isAgg, run_underlying e h, hx]
theorem ev_neCand {S : Setup} (hS : S.P = Tryz.prog) {x y : Operand} {t' ty : Nat} {a c : Cand} (hx : ev ρ x = some (.agg (candV a).toArray)) (hy : ev ρ y = some (.agg (candV c).toArray)) : Ev S (.binOp .neq 53 x y t') ty ρ L (.bool (decide (a ≠ c))) := by
  intro e w _ _ _ _ ha hw
  have hm : Tryz.prog.eqGuardType Tryz.prog.depth 53 = false := by kernel_rfl
  have h1 : Tryz.prog.underlying 53 = some (.struct (Tryz.prog.fieldsOf 53)) := by kernel_rfl
  have h2 : Tryz.prog.stoodInHeld 53 = false := by kernel_rfl
  obtain ⟨f0, f1, hf, n0, n1, o0, o1, t0, t1⟩ : ∃ f0 f1, (Tryz.prog.fieldsOf 53).toList = [f0, f1] ∧ f0.name ≠ "_" ∧ f1.name ≠ "_" ∧ f0.offset = 0 ∧ f1.offset = 1 ∧ f0.type = 9 ∧ f1.type = 22 := ⟨_, _, rfl, by decide, by decide, rfl, rfl, rfl, rfl⟩
  have u9 : Tryz.prog.underlying 9 = some .string := by kernel_rfl
  have u22 : Tryz.prog.underlying 22 = some (.int .u64) := by kernel_rfl
  obtain ⟨a1, a2⟩ := a
  obtain ⟨c1, c2⟩ := c
  have hcore : ∀ w, (binOp .neq 53 (.agg (candV (a1, a2)).toArray) (.agg (candV (c1, c2)).toArray)).run Tryz.prog w = .ok (.bool (decide ((a1, a2) ≠ (c1, c2)))) w := by
    intro w
    rw [run_neq_struct, run_equalIn_struct w _ _ _ _ h1 h2, hf]
    simp only [Op.eqFields]
    rw [if_pos n0, o0, t0, Sem.run_bind, run_partStr (a := a1) u9 rfl, Result.andThen_ok, Sem.run_bind, run_partStr (a := c1) u9 rfl, Result.andThen_ok, Sem.run_bind, run_equalIn_string w _ _ _ _ u9, Result.andThen_ok, str_beq]
    by_cases e1 : a1 = c1
    · rw [if_neg (by simp [e1]), if_pos n1, o1, t1, Sem.run_bind, run_partInt (k := .u64) (a := a2) u22 rfl, Result.andThen_ok, Sem.run_bind, run_partInt (k := .u64) (a := c2) u22 rfl, Result.andThen_ok, Sem.run_bind, run_equalIn_int w _ _ _ _ _ _ u22, Result.andThen_ok]
      by_cases e2 : a2 = c2
      · rw [if_neg (by simp [e2])]
        simp [e1, e2]
      · rw [if_pos (by simp [e2])]
        simp [e1, e2]
    · rw [if_pos (by simp [e1])]
      simp [e1]
  simp only [execOp, ha.ev hx, ha.ev hy, Sem.run_bind, hS, run_eqGuard_agg _ _ _ _ _ _ _ hm, Result.andThen_ok, hcore, Sem.run_pure]
end
end Go.PS
