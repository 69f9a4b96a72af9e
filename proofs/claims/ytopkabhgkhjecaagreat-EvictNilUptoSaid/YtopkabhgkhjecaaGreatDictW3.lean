/-
  The table's calls, walked: New, Get, Set, Delete.
  Conditions: each contract's own.
-/
import Derived.Test.YtopkabhgkhjecaaGreatDictW2
namespace Go.PS
open Go Go.Proofs
set_option maxRecDepth 10000

/-- dict.New -/
theorem new_spec {G : World} {F : List HP} (seed : Int) : Spec Tryz.prog G 44 [.int .u64 seed] F fun v L' => ∃ b, v = .pointer (some ⟨b, 0, none⟩) ∧ L' = dictL τK b ⟨seed, [], [], 0, 0⟩ 0 0 ++ F := by
  refine spec_of_run Tryz.func44 rfl rfl ?_
  refine run_seq ?_
  refine run_region ?_
  refine k_val (ev_assign rfl) rfl ?_
  refine run_seq ?_
  refine run_region ?_
  refine k_val (ev_move rfl) rfl ?_
  refine k_val (ev_build1 [.int .u64 0, .slice none 0 0, .slice none 0 0, .int .i64 0, .int .i64 0] [0] (by kernel_rfl) (by kernel_rfl) rfl rfl rfl) rfl ?_
  refine k_boxAgg rfl rfl ?_
  intro nb1
  refine k_val (ev_assign rfl) rfl ?_
  exact ret_spec Tryz.func44 rfl rfl ⟨_, rfl, rfl⟩

theorem dict_tabR {G : World} {F : List HP} {b to ty : Nat} {d : D (Nat × Value)} : TabR G (dictL τK b d to ty ++ F) to d.old ∧ TabR G (dictL τK b d to ty ++ F) ty d.young :=
  ⟨tabR_mem τK fun A h => by simp [dictL, h], tabR_mem τK fun A h => by simp [dictL, h]⟩
theorem dict_reads {G : World} {F : List HP} {b to ty : Nat} {d : D (Nat × Value)} : Reads G (dictL τK b d to ty ++ F) b (dictCells d to ty) := reads_mem (T := 165) (fz := (0, 0)) (by simp [dictL, τK])

/-- (*Dict).Get -/
theorem get_spec {G : World} {F : List HP} {b to ty : Nat} {d : D (Nat × Value)} (key : ByteArray) (ok : DOk d) (hk : key.size ≤ 9223372036854775806) :
    Spec Tryz.prog G 116 [.pointer (some ⟨b, 0, none⟩), .string key] (dictL τK b d to ty ++ F) fun v L' => ∃ to' ty', L' = dictL τK b d.step to' ty' ++ F ∧
      v = (match d.step.find key with | some (_, x) => .tuple #[x, .bool true] | none => .tuple #[.pointer none, .bool false]) := by
  have ok' := ok.step
  refine spec_of_run Tryz.func116 rfl rfl ?_
  refine run_seq ?_
  refine run_region ?_
  refine k_val (ev_assign rfl) rfl ?_
  refine k_val (ev_assign rfl) rfl ?_
  refine run_seq ?_
  refine run_region ?_
  refine k_val (ev_assign rfl) rfl ?_
  refine run_seq ?_
  refine run_seq ?_
  refine run_region ?_
  refine k_val (ev_move rfl) rfl ?_
  refine k_val (ev_eqNil rfl rfl (by kernel_rfl)) rfl ?_
  refine run_cond (t := false) rfl ?_
  refine run_skip ?_
  refine run_seq ?_
  refine run_region ?_
  refine k_val (ev_move rfl) rfl ?_
  refine k_call rfl rfl (by kernel_rfl) (step_spec ok) ?_
  rintro _ _ ⟨to', ty', rfl⟩
  haveI := dict_reads (G := G) (F := F) (b := b) (to := to') (ty := ty') (d := d.step)
  have hR := dict_tabR (G := G) (F := F) (b := b) (to := to') (ty := ty') (d := d.step)
  refine run_seq ?_
  refine run_seq ?_
  refine run_region ?_
  refine k_val (ev_move rfl) rfl ?_
  refine k_val (ev_move rfl) rfl ?_
  refine k_call rfl rfl (by kernel_rfl) (find_spec (d := d.step) to' ty' key hR.1 hR.2 hk (by have := ok'.lo; omega) (by have := ok'.ly; omega)) ?_
  rintro _ _ ⟨rfl, rfl⟩
  refine k_val (ev_assign rfl) rfl ?_
  refine run_seq ?_
  refine run_region ?_
  refine k_val (ev_move rfl) rfl ?_
  refine k_val (ev_neNil rfl rfl (by kernel_rfl)) rfl ?_
  cases h1 : linkLoc to' d.step.seed d.step.old key with
  | some p =>
    obtain ⟨c, j, e, v, hc, hj, he, hp, hin, bb, off, cells, nx, rfl, hrd, hcell, hre⟩ := link_found h1 hR.1
    refine run_cond (t := true) rfl ?_
    refine run_seq ?_
    refine run_region ?_
    refine k_val (ev_move rfl) rfl ?_
    refine k_val (ev_nilCheck rfl) rfl ?_
    refine k_val (ev_loadAt rfl (by assumption) (by kernel_rfl)) rfl ?_
    refine k_val (ev_nilCheck rfl) rfl ?_
    refine k_val (ev_fieldAddr0 1 rfl (by kernel_rfl)) rfl ?_
    refine k_val (ev_load rfl (by kernel_rfl)) rfl ?_
    refine k_val (ev_assign rfl) rfl ?_
    refine k_val (ev_assign rfl) rfl ?_
    refine ret_spec Tryz.func116 rfl rfl ⟨to', ty', rfl, ?_⟩
    unfold D.find; rw [hin]; rfl
  | none =>
    cases h2 : linkLoc ty' d.step.seed d.step.young key with
    | some p =>
      obtain ⟨c, j, e, v, hc, hj, he, hp, hin, bb, off, cells, nx, rfl, hrd, hcell, hre⟩ := link_found h2 hR.2
      refine run_cond (t := true) rfl ?_
      refine run_seq ?_
      refine run_region ?_
      refine k_val (ev_move rfl) rfl ?_
      refine k_val (ev_nilCheck rfl) rfl ?_
      refine k_val (ev_loadAt rfl (by assumption) (by kernel_rfl)) rfl ?_
      refine k_val (ev_nilCheck rfl) rfl ?_
      refine k_val (ev_fieldAddr0 1 rfl (by kernel_rfl)) rfl ?_
      refine k_val (ev_load rfl (by kernel_rfl)) rfl ?_
      refine k_val (ev_assign rfl) rfl ?_
      refine k_val (ev_assign rfl) rfl ?_
      refine ret_spec Tryz.func116 rfl rfl ⟨to', ty', rfl, ?_⟩
      unfold D.find; rw [link_none h1, hin]; rfl
    | none =>
      refine run_cond (t := false) rfl ?_
      refine run_skip ?_
      refine run_seq ?_
      refine run_region ?_
      refine k_val (ev_move rfl) rfl ?_
      refine k_val (ev_assign rfl) rfl ?_
      refine k_val (ev_assign rfl) rfl ?_
      refine ret_spec Tryz.func116 rfl rfl ⟨to', ty', rfl, ?_⟩
      unfold D.find; rw [link_none h1, link_none h2]; rfl
end Go.PS
