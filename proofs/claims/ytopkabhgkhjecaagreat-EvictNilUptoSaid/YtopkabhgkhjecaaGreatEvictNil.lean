/-
  With a nil keyspace, pool or source Round changes nothing and Enforce evicts nothing and says so; the little run beside it evicts its one key. For arguments of bulk at most 1048576.
  Conditions: none.
-/
import Derived.Test.YtopkabhgkhjecaaGreatTop
namespace Go.Proofs.YtopkabhgkhjecaaGreat.evictNil
open Go Go.PS Go.ChangeShapes Go.WideShapes Go.ChangeAt Go.RowKit Go.Joins
set_option linter.unusedVariables false
set_option maxRecDepth 10000

theorem own : ownKnob Tryz.prog.godebug = none := by kernel_rfl
theorem laidOut : laidOutB Tryz.prog = true := by kernel_rfl
theorem cells24 : Tryz.prog.cellsOf 24 = 4 := by kernel_rfl
theorem cells22 : Tryz.prog.cellsOf 22 = 1 := by kernel_rfl

theorem contract (H : Type) (enc : TypeId × Value → H) (W : World) (base : Nat) (args : Array Value) (ds gs : List (DataW H)) (before : List MemPlace)
    (hval : ∀ (j : Nat) t v, Tryz.f3.params[j]? = some t → args[j]? = some v → Value.okWide Tryz.prog W .any base t v)
    (hW : DataW.Whole enc Tryz.prog Tryz.f3.params.toList Rows.evictNilSpec.vars false W args.toList ds gs before) (hk : Rows.uptoSmall H (ds ++ gs) = true) :
    Calls Tryz.prog 3 args W fun e W' => ∃ v, e = .returned v ∧ Rows.evictNilSpec.post enc Tryz.prog Tryz.f3 false true false false W args v W' := by
  have hW' := hW
  obtain ⟨p, q, hA0, hV, rfl, hfz, hnd⟩ := hW
  have hA : DataW.TrodAll enc Tryz.prog W 0 (fun _ => true) true Tryz.f3.params.toList args.toList ds p := hA0
  rw [Tryz.params3] at hA hval
  obtain ⟨v0, vs0, d0, ds0, p0, q0, hargs, rfl, rfl, h0, r0⟩ := trodAll_cons hA
  obtain ⟨v1, vs1, d1, ds1, p1, q1, rfl, rfl, rfl, h1, r1⟩ := trodAll_cons r0
  obtain ⟨v2, vs2, d2, ds2, p2, q2, rfl, rfl, rfl, h2, r2⟩ := trodAll_cons r1
  obtain ⟨rfl, rfl, rfl⟩ := trodAll_nil r2
  obtain rfl : args = #[v0, v1, v2] := by cases args; simp_all
  obtain ⟨rfl, rfl⟩ := trodVars_none hV
  obtain ⟨a0, rfl, rfl, rfl, w0⟩ := open_int Tryz.underlying3 (hval 0 3 v0 rfl rfl) h0
  obtain ⟨c0, c1, c2, c3, y0, y1, y2, y3, m, rfl, rfl, rfl, hy0, hy1, hy2, hy3⟩ := open_agg4 Tryz.underlying24 (by kernel_rfl) cells24 (hval 1 24 v1 rfl rfl) h1
  obtain ⟨b0, hb0, _, _⟩ := DataW.trod_int Tryz.underlying22 hy0
  obtain ⟨b1, hb1, _, _⟩ := DataW.trod_int Tryz.underlying2 hy1
  obtain ⟨b2, hb2, _, _⟩ := DataW.trod_int Tryz.underlying3 hy2
  obtain ⟨b3, hb3, _, _⟩ := DataW.trod_int Tryz.underlying3 hy3
  simp only [List.cons.injEq, and_true] at hb0 hb1 hb2 hb3
  subst hb0 hb1 hb2 hb3
  obtain ⟨zs, hz, hzw, hzd⟩ := draws_in Tryz.underlying25 Tryz.underlying22 cells22 (hval 2 25 v2 rfl rfl) h2
  have hzl : zs.length ≤ 1099511627776 := by
    have hb := of_decide_eq_true hk
    simp only [List.append_nil, Rows.uptoBulkAll] at hb
    rcases hzd with ⟨rfl, rfl⟩ | ⟨rest, rfl⟩
    · simp
    · have h1 : zs.length ≤ Rows.uptoBulkAll (lits (H := H) .u64 zs) := by
        have : ∀ l : List Int, l.length ≤ Rows.uptoBulkAll (lits (H := H) .u64 l) := fun l => by
          induction l with
          | nil => exact Nat.zero_le _
          | cons x l ih =>
            show l.length + 1 ≤ Rows.uptoBulk (DataW.lit (H := H) (.int .u64 x)) + Rows.uptoBulkAll (lits (H := H) .u64 l)
            have : Rows.uptoBulk (DataW.lit (H := H) (.int .u64 x)) = 1 := rfl
            omega
        exact this zs
      have h2 : Rows.uptoBulk (DataW.slice (lits (H := H) .u64 zs) rest) = Rows.uptoBulkAll (lits (H := H) .u64 zs) + Rows.uptoBulkAll rest + 1 := rfl
      omega
  have hsp := (law3_spec (L := [Old W]) (k := a0) (q := ⟨b0, b1, b2, b3⟩) hz hzl).run W (sat_start W)
  refine hsp.mono ?_
  rintro e W' ⟨u, L', ⟨rfl, rfl⟩, rfl, hs⟩
  refine ⟨_, rfl, ?_⟩
  exact post_true (tb := 4) laidOut (by kernel_rfl) (by kernel_rfl) Tryz.underlying4 rfl rfl rfl rfl hW' hs

set_option maxRecDepth 100000 in
theorem lifted (os : Os) (started : os.Started) (H : Type) (enc : TypeId × Value → H) (F : Stop.Interp) :
    ReturnsInHanded {} Tryz.checked os 3 .any ((Rows.OpenSpec.upto Rows.evictNilSpec).pre6 enc Tryz.prog Tryz.f3 Rows.evictNilUptoRow.domain false) (((Rows.OpenSpec.upto Rows.evictNilSpec).at F).post enc Tryz.prog Tryz.f3 false true false false) := by
  refine returnsInHanded_of_cond (C := Tryz.checked) (s := Rows.OpenSpec.upto Rows.evictNilSpec) (k := Rows.uptoSmall) rfl own started (by kernel_rfl) Tryz.func3
    (OpenSpec.witness (enc := enc) (C := Tryz.checked) (s := Rows.OpenSpec.upto Rows.evictNilSpec) (k := Rows.uptoSmall) rfl false ⟨#[], #[.int .i64 0, .agg #[.int .u64 0, .int .i64 0, .int .i64 0, .int .i64 0], .slice none 0 0], []⟩ 8 (by kernel_rfl) (by kernel_rfl) (by kernel_rfl)
      (x := ([.lit (.int .i64 0), .agg [.lit (.int .u64 0), .lit (.int .i64 0), .lit (.int .i64 0), .lit (.int .i64 0)], .nil], [], [])) (by kernel_rfl) rfl (by kernel_rfl)) ?_
  intro W base args ds gs before hval hW _ hk _
  exact contract H enc W base args ds gs before hval hW hk

theorem over : Rows.evictNilUptoRow.holds Tryz.pinned (Rows.OpenSpec.upto Rows.evictNilSpec) :=
  OpenClaim.holds_of_cond 3 Tryz.f3 rfl rfl rfl rfl rfl rfl rfl ⟨rfl, rfl, rfl, rfl, rfl⟩ rfl rfl rfl rfl rfl (by kernel_rfl) Tryz.func3 (by kernel_rfl)
    (of_decide_eq_true (by kernel_rfl)) (by unfold Func.isWrapper; first | (rw [if_pos (by decide +kernel)]; kernel_rfl) | (rw [if_neg (by decide +kernel)]; exact ⟨rfl, rfl⟩))
    (fun os started H enc _ F => lifted os started H enc F)

theorem proved : Rows.EvictNilUptoSaid :=
  over
end Go.Proofs.YtopkabhgkhjecaaGreat.evictNil
