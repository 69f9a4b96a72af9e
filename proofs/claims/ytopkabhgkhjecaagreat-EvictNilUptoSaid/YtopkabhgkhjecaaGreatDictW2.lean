/-
  The table's step, walked.
  Conditions: each contract's own.
-/
import Derived.Test.YtopkabhgkhjecaaGreatDictW
namespace Go.PS
open Go Go.Proofs
set_option maxRecDepth 10000

theorem perm4 {A B C D : HP} {X Y : List HP} (h : X.Perm Y) : (A :: B :: C :: D :: X).Perm (D :: C :: A :: B :: Y) := by
  refine List.Perm.trans (List.Perm.cons _ (List.Perm.cons _ (List.Perm.swap _ _ _))) ?_
  refine List.Perm.trans (List.Perm.cons _ (List.Perm.swap _ _ _)) ?_
  refine List.Perm.trans (List.Perm.swap _ _ _) (List.Perm.cons _ ?_)
  exact (List.Perm.trans (List.Perm.cons _ (List.Perm.swap _ _ _)) (List.Perm.trans (List.Perm.swap _ _ _) (.cons _ (.cons _ (.cons _ h)))))

/-- (*Dict).step -/
theorem step_spec {G : World} {F : List HP} {b : Nat} {d : D (Nat × Value)} {to ty : Nat} (ok : DOk d) :
    Spec Tryz.prog G 147 [.pointer (some ⟨b, 0, none⟩)] (dictL τK b d to ty ++ F) fun _ L' => ∃ to' ty', L' = dictL τK b d.step to' ty' ++ F := by
  haveI : Reads G (dictL τK b d to ty ++ F) b (dictCells d to ty) := reads_mem (T := 165) (fz := (0, 0)) (by simp [dictL, τK])
  refine spec_of_run Tryz.func147 rfl rfl ?_
  refine run_seq ?_
  refine run_seq ?_
  refine run_region ?_
  refine k_val (ev_move rfl) rfl ?_
  refine k_call rfl rfl (by kernel_rfl) (moving_spec (d := d) to ty) ?_
  rintro _ _ ⟨rfl, rfl⟩
  refine k_val (ev_not rfl) rfl ?_
  by_cases hy : d.young = []
  · refine run_cond (t := true) (by simp [ev, look, hy]) ?_
    skip
    exact ret_spec Tryz.func147 rfl rfl ⟨to, ty, by rw [D.step, if_pos hy]⟩
  · refine run_cond (t := false) (by simp [ev, look, hy]) ?_
    have ho := ok.yo hy
    have h1 := ok.at_le
    have h2 := ok.lo
    have h3 := ok.ly
    refine run_skip ?_
    refine run_seq ?_
    refine run_seq ?_
    refine run_region ?_
    refine k_val (ev_assign rfl) rfl ?_
    refine Run.perm ?_ (dict_open τK ho hy)
    generalize hR : rowL τK d.old ++ (rowL τK d.young ++ F) = R
    refine run_while (ι := Nat) (κ := Nat) (fun k => 10 - k) (fun k => k ≤ 10 ∧ d.at_ + k ≤ d.old.length ∧ D.pass 10 d.old d.at_ = D.pass (10 - k) d.old (d.at_ + k))
      (fun k => [(0, .pointer (some ⟨b, 0, none⟩)), (2, .int .i64 k)])
      (fun k => Blk b (.cells #[.int .u64 d.seed, .slice (some ⟨to, 0, none⟩) d.old.length d.old.length, .slice (some ⟨ty, 0, none⟩) d.young.length d.young.length, .int .i64 (d.at_ + k : Nat), .int .i64 d.n] 165 (0, 0)) :: Blk to (.cells (tabCells d.old) 182 (0, 0)) :: Blk ty (.cells (tabCells d.young) 182 (0, 0)) :: R)
      (fun a => a = D.pass 10 d.old d.at_ ∧ a ≤ d.old.length) (fun _ => [(0, .pointer (some ⟨b, 0, none⟩))])
      (fun a => Blk b (.cells #[.int .u64 d.seed, .slice (some ⟨to, 0, none⟩) d.old.length d.old.length, .slice (some ⟨ty, 0, none⟩) d.young.length d.young.length, .int .i64 (a : Nat), .int .i64 d.n] 165 (0, 0)) :: Blk to (.cells (tabCells d.old) 182 (0, 0)) :: Blk ty (.cells (tabCells d.young) 182 (0, 0)) :: R)
      0 ⟨by omega, by omega, rfl⟩ ⟨rfl, rfl, trivial⟩ rfl ?_ ?_
    · rintro k ⟨hk, ha, hp⟩ next out
      by_cases hk' : k < 10
      · by_cases hl : d.at_ + k < d.old.length
        · have hcell := tabCells_get (List.getElem?_eq_getElem hl)
          cases hc : d.old[d.at_ + k] with
          | nil =>
            rw [hc] at hcell
            change (tabCells d.old)[d.at_ + k]? = some (.pointer none) at hcell
            refine run_seq ?_
            refine run_seq ?_
            refine run_quiet (by kernel_rfl) (by kernel_rfl) ?_
            refine q_val (ev_move rfl) rfl ?_
            refine q_val (ev_bT (ev_lt rfl rfl) (by first | assumption | omega)) rfl ?_
            refine q_val (ev_move rfl) rfl ?_
            refine q_guard rfl rfl rfl ?_
            refine q_val (ev_move rfl) rfl ?_
            refine q_guard rfl rfl rfl ?_
            refine q_val (ev_nilCheck rfl) rfl ?_
            refine q_guard rfl rfl rfl ?_
            refine q_val (ev_fieldAddr0 3 rfl (by kernel_rfl)) rfl ?_
            refine q_guard rfl rfl rfl ?_
            refine q_val (ev_load rfl (by kernel_rfl)) rfl ?_
            refine q_guard rfl rfl rfl ?_
            refine q_val (ev_move rfl) rfl ?_
            refine q_guard rfl rfl rfl ?_
            refine q_val (ev_nilCheck rfl) rfl ?_
            refine q_guard rfl rfl rfl ?_
            refine q_val (ev_fieldAddr0 1 rfl (by kernel_rfl)) rfl ?_
            refine q_guard rfl rfl rfl ?_
            refine q_val (ev_load rfl (by kernel_rfl)) rfl ?_
            refine q_guard rfl rfl rfl ?_
            refine q_val (ev_lenSlice (e := 182) rfl (by kernel_rfl)) rfl ?_
            refine q_guard rfl rfl rfl ?_
            refine q_val (ev_bT (ev_lt rfl rfl) (by first | assumption | omega)) rfl ?_
            refine q_val (ev_pickT rfl rfl) rfl ?_
            refine q_val (ev_move rfl) rfl ?_
            refine q_guard rfl rfl rfl ?_
            refine q_val (ev_move rfl) rfl ?_
            refine q_guard rfl rfl rfl ?_
            refine q_val (ev_nilCheck rfl) rfl ?_
            refine q_guard rfl rfl rfl ?_
            refine q_val (ev_fieldAddr0 1 rfl (by kernel_rfl)) rfl ?_
            refine q_guard rfl rfl rfl ?_
            refine q_val (ev_load rfl (by kernel_rfl)) rfl ?_
            refine q_guard rfl rfl rfl ?_
            refine q_val (ev_move rfl) rfl ?_
            refine q_guard rfl rfl rfl ?_
            refine q_val (ev_nilCheck rfl) rfl ?_
            refine q_guard rfl rfl rfl ?_
            refine q_val (ev_fieldAddr0 3 rfl (by kernel_rfl)) rfl ?_
            refine q_guard rfl rfl rfl ?_
            refine q_val (ev_load rfl (by kernel_rfl)) rfl ?_
            refine q_guard rfl rfl rfl ?_
            refine q_val (ev_indexAddr1 (e := 182) rfl rfl (by first | assumption | omega) (by kernel_rfl) (by kernel_rfl)) rfl ?_
            refine q_guard rfl rfl rfl ?_
            refine q_val (ev_loadAt rfl (by assumption) (by kernel_rfl)) rfl ?_
            refine q_guard rfl rfl rfl ?_
            refine q_val (ev_eqNil rfl rfl (by kernel_rfl)) rfl ?_
            refine q_val (ev_pickT rfl rfl) rfl ?_
            refine q_nil ?_
            refine run_cond (t := true) rfl ?_
            refine run_skip ?_
            refine run_seq ?_
            refine run_block ?_
            refine run_region ?_
            refine k_val (ev_move rfl) rfl ?_
            refine k_val (ev_nilCheck rfl) rfl ?_
            refine k_val (ev_fieldAddr0 3 rfl (by kernel_rfl)) rfl ?_
            refine k_val (ev_load rfl (by kernel_rfl)) rfl ?_
            refine k_val (ev_addN (n := 1) rfl rfl rfl rfl (by omega)) rfl ?_
            refine k_val (ev_nilCheck rfl) rfl ?_
            refine k_val (ev_fieldAddr0 3 rfl (by kernel_rfl)) rfl ?_
            refine k_store rfl rfl rfl rfl (by kernel_rfl) ?_
            refine run_inBlock ?_
            refine run_region ?_
            refine k_val (ev_move rfl) rfl ?_
            refine k_val (ev_addN (n := 1) rfl rfl rfl rfl (by omega)) rfl ?_
            refine k_val (ev_assign rfl) rfl ?_
            refine next (k + 1) _ (by omega) ⟨by omega, by omega, ?_⟩ ⟨rfl, rfl, trivial⟩
            rw [hp, show 10 - k = (10 - (k + 1)) + 1 by omega, D.pass_empty (by rw [List.getElem?_eq_getElem hl, hc])]
            rfl
          | cons x r =>
            rw [hc] at hcell
            obtain ⟨xk, xe, xv⟩ := x
            change (tabCells d.old)[d.at_ + k]? = some (.pointer (some ⟨xe, 0, none⟩)) at hcell
            refine run_seq ?_
            refine run_seq ?_
            refine run_quiet (by kernel_rfl) (by kernel_rfl) ?_
            refine q_val (ev_move rfl) rfl ?_
            refine q_val (ev_bT (ev_lt rfl rfl) (by first | assumption | omega)) rfl ?_
            refine q_val (ev_move rfl) rfl ?_
            refine q_guard rfl rfl rfl ?_
            refine q_val (ev_move rfl) rfl ?_
            refine q_guard rfl rfl rfl ?_
            refine q_val (ev_nilCheck rfl) rfl ?_
            refine q_guard rfl rfl rfl ?_
            refine q_val (ev_fieldAddr0 3 rfl (by kernel_rfl)) rfl ?_
            refine q_guard rfl rfl rfl ?_
            refine q_val (ev_load rfl (by kernel_rfl)) rfl ?_
            refine q_guard rfl rfl rfl ?_
            refine q_val (ev_move rfl) rfl ?_
            refine q_guard rfl rfl rfl ?_
            refine q_val (ev_nilCheck rfl) rfl ?_
            refine q_guard rfl rfl rfl ?_
            refine q_val (ev_fieldAddr0 1 rfl (by kernel_rfl)) rfl ?_
            refine q_guard rfl rfl rfl ?_
            refine q_val (ev_load rfl (by kernel_rfl)) rfl ?_
            refine q_guard rfl rfl rfl ?_
            refine q_val (ev_lenSlice (e := 182) rfl (by kernel_rfl)) rfl ?_
            refine q_guard rfl rfl rfl ?_
            refine q_val (ev_bT (ev_lt rfl rfl) (by first | assumption | omega)) rfl ?_
            refine q_val (ev_pickT rfl rfl) rfl ?_
            refine q_val (ev_move rfl) rfl ?_
            refine q_guard rfl rfl rfl ?_
            refine q_val (ev_move rfl) rfl ?_
            refine q_guard rfl rfl rfl ?_
            refine q_val (ev_nilCheck rfl) rfl ?_
            refine q_guard rfl rfl rfl ?_
            refine q_val (ev_fieldAddr0 1 rfl (by kernel_rfl)) rfl ?_
            refine q_guard rfl rfl rfl ?_
            refine q_val (ev_load rfl (by kernel_rfl)) rfl ?_
            refine q_guard rfl rfl rfl ?_
            refine q_val (ev_move rfl) rfl ?_
            refine q_guard rfl rfl rfl ?_
            refine q_val (ev_nilCheck rfl) rfl ?_
            refine q_guard rfl rfl rfl ?_
            refine q_val (ev_fieldAddr0 3 rfl (by kernel_rfl)) rfl ?_
            refine q_guard rfl rfl rfl ?_
            refine q_val (ev_load rfl (by kernel_rfl)) rfl ?_
            refine q_guard rfl rfl rfl ?_
            refine q_val (ev_indexAddr1 (e := 182) rfl rfl (by first | assumption | omega) (by kernel_rfl) (by kernel_rfl)) rfl ?_
            refine q_guard rfl rfl rfl ?_
            refine q_val (ev_loadAt rfl (by assumption) (by kernel_rfl)) rfl ?_
            refine q_guard rfl rfl rfl ?_
            refine q_val (ev_eqNil rfl rfl (by kernel_rfl)) rfl ?_
            refine q_val (ev_pickT rfl rfl) rfl ?_
            refine q_nil ?_
            refine run_cond (t := false) rfl ?_
            refine run_exit rfl (out (d.at_ + k) _ ⟨?_, by omega⟩ ⟨rfl, trivial⟩)
            rw [hp, D.pass_full (List.getElem?_eq_getElem hl) (by rw [hc]; simp)]
        · refine run_seq ?_
          refine run_seq ?_
          refine run_quiet (by kernel_rfl) (by kernel_rfl) ?_
          refine q_val (ev_move rfl) rfl ?_
          refine q_val (ev_bT (ev_lt rfl rfl) (by first | assumption | omega)) rfl ?_
          refine q_val (ev_move rfl) rfl ?_
          refine q_guard rfl rfl rfl ?_
          refine q_val (ev_move rfl) rfl ?_
          refine q_guard rfl rfl rfl ?_
          refine q_val (ev_nilCheck rfl) rfl ?_
          refine q_guard rfl rfl rfl ?_
          refine q_val (ev_fieldAddr0 3 rfl (by kernel_rfl)) rfl ?_
          refine q_guard rfl rfl rfl ?_
          refine q_val (ev_load rfl (by kernel_rfl)) rfl ?_
          refine q_guard rfl rfl rfl ?_
          refine q_val (ev_move rfl) rfl ?_
          refine q_guard rfl rfl rfl ?_
          refine q_val (ev_nilCheck rfl) rfl ?_
          refine q_guard rfl rfl rfl ?_
          refine q_val (ev_fieldAddr0 1 rfl (by kernel_rfl)) rfl ?_
          refine q_guard rfl rfl rfl ?_
          refine q_val (ev_load rfl (by kernel_rfl)) rfl ?_
          refine q_guard rfl rfl rfl ?_
          refine q_val (ev_lenSlice (e := 182) rfl (by kernel_rfl)) rfl ?_
          refine q_guard rfl rfl rfl ?_
          refine q_val (ev_bF (ev_lt rfl rfl) (by first | assumption | omega)) rfl ?_
          refine q_val (ev_pickT rfl rfl) rfl ?_
          refine q_val (ev_move rfl) rfl ?_
          refine q_skip rfl rfl rfl rfl ?_
          refine q_skip rfl rfl rfl rfl ?_
          refine q_skip rfl rfl rfl rfl ?_
          refine q_skip rfl rfl rfl rfl ?_
          refine q_skip rfl rfl rfl rfl ?_
          refine q_skip rfl rfl rfl rfl ?_
          refine q_skip rfl rfl rfl rfl ?_
          refine q_skip rfl rfl rfl rfl ?_
          refine q_skip rfl rfl rfl rfl ?_
          refine q_skip rfl rfl rfl rfl ?_
          refine q_skip rfl rfl rfl rfl ?_
          refine q_val (ev_pickF rfl rfl) rfl ?_
          refine q_nil ?_
          refine run_cond (t := false) rfl ?_
          refine run_exit rfl (out (d.at_ + k) _ ⟨?_, by omega⟩ ⟨rfl, trivial⟩)
          rw [hp, D.pass_end (by omega)]
      · refine run_seq ?_
        refine run_seq ?_
        refine run_quiet (by kernel_rfl) (by kernel_rfl) ?_
        refine q_val (ev_move rfl) rfl ?_
        refine q_val (ev_bF (ev_lt rfl rfl) (by first | assumption | omega)) rfl ?_
        refine q_val (ev_move rfl) rfl ?_
        refine q_skip rfl rfl rfl rfl ?_
        refine q_skip rfl rfl rfl rfl ?_
        refine q_skip rfl rfl rfl rfl ?_
        refine q_skip rfl rfl rfl rfl ?_
        refine q_skip rfl rfl rfl rfl ?_
        refine q_skip rfl rfl rfl rfl ?_
        refine q_skip rfl rfl rfl rfl ?_
        refine q_skip rfl rfl rfl rfl ?_
        refine q_skip rfl rfl rfl rfl ?_
        refine q_skip rfl rfl rfl rfl ?_
        refine q_val (ev_pickF rfl rfl) rfl ?_
        refine q_val (ev_move rfl) rfl ?_
        refine q_skip rfl rfl rfl rfl ?_
        refine q_skip rfl rfl rfl rfl ?_
        refine q_skip rfl rfl rfl rfl ?_
        refine q_skip rfl rfl rfl rfl ?_
        refine q_skip rfl rfl rfl rfl ?_
        refine q_skip rfl rfl rfl rfl ?_
        refine q_skip rfl rfl rfl rfl ?_
        refine q_skip rfl rfl rfl rfl ?_
        refine q_skip rfl rfl rfl rfl ?_
        refine q_skip rfl rfl rfl rfl ?_
        refine q_skip rfl rfl rfl rfl ?_
        refine q_val (ev_pickF rfl rfl) rfl ?_
        refine q_nil ?_
        refine run_cond (t := false) rfl ?_
        refine run_exit rfl (out (d.at_ + k) _ ⟨?_, by omega⟩ ⟨rfl, trivial⟩)
        rw [hp, show 10 - k = 0 by omega, D.pass_zero]
    · rintro a ⟨hp, ha⟩
      by_cases hl : a < d.old.length
      · have hcell := tabCells_get (List.getElem?_eq_getElem hl)
        cases hc : d.old[a] with
        | nil =>
          rw [hc] at hcell
          change (tabCells d.old)[a]? = some (.pointer none) at hcell
          refine run_seq ?_
          refine run_seq ?_
          refine run_quiet (by kernel_rfl) (by kernel_rfl) ?_
          refine q_val (ev_move rfl) rfl ?_
          refine q_val (ev_nilCheck rfl) rfl ?_
          refine q_val (ev_fieldAddr0 3 rfl (by kernel_rfl)) rfl ?_
          refine q_val (ev_load rfl (by kernel_rfl)) rfl ?_
          refine q_val (ev_move rfl) rfl ?_
          refine q_val (ev_nilCheck rfl) rfl ?_
          refine q_val (ev_fieldAddr0 1 rfl (by kernel_rfl)) rfl ?_
          refine q_val (ev_load rfl (by kernel_rfl)) rfl ?_
          refine q_val (ev_lenSlice (e := 182) rfl (by kernel_rfl)) rfl ?_
          refine q_val (ev_bT (ev_lt rfl rfl) (by first | assumption | omega)) rfl ?_
          refine q_val (ev_move rfl) rfl ?_
          refine q_guard rfl rfl rfl ?_
          refine q_val (ev_move rfl) rfl ?_
          refine q_guard rfl rfl rfl ?_
          refine q_val (ev_nilCheck rfl) rfl ?_
          refine q_guard rfl rfl rfl ?_
          refine q_val (ev_fieldAddr0 1 rfl (by kernel_rfl)) rfl ?_
          refine q_guard rfl rfl rfl ?_
          refine q_val (ev_load rfl (by kernel_rfl)) rfl ?_
          refine q_guard rfl rfl rfl ?_
          refine q_val (ev_move rfl) rfl ?_
          refine q_guard rfl rfl rfl ?_
          refine q_val (ev_nilCheck rfl) rfl ?_
          refine q_guard rfl rfl rfl ?_
          refine q_val (ev_fieldAddr0 3 rfl (by kernel_rfl)) rfl ?_
          refine q_guard rfl rfl rfl ?_
          refine q_val (ev_load rfl (by kernel_rfl)) rfl ?_
          refine q_guard rfl rfl rfl ?_
          refine q_val (ev_indexAddr1 (e := 182) rfl rfl (by first | assumption | omega) (by kernel_rfl) (by kernel_rfl)) rfl ?_
          refine q_guard rfl rfl rfl ?_
          refine q_val (ev_loadAt rfl (by assumption) (by kernel_rfl)) rfl ?_
          refine q_guard rfl rfl rfl ?_
          refine q_val (ev_neNil rfl rfl (by kernel_rfl)) rfl ?_
          refine q_val (ev_pickT rfl rfl) rfl ?_
          refine q_nil ?_
          refine run_cond (t := false) rfl ?_
          refine run_skip ?_
          refine run_seq ?_
          refine run_quiet (by kernel_rfl) (by kernel_rfl) ?_
          refine q_val (ev_move rfl) rfl ?_
          refine q_val (ev_nilCheck rfl) rfl ?_
          refine q_val (ev_fieldAddr0 3 rfl (by kernel_rfl)) rfl ?_
          refine q_val (ev_load rfl (by kernel_rfl)) rfl ?_
          refine q_val (ev_move rfl) rfl ?_
          refine q_val (ev_nilCheck rfl) rfl ?_
          refine q_val (ev_fieldAddr0 1 rfl (by kernel_rfl)) rfl ?_
          refine q_val (ev_load rfl (by kernel_rfl)) rfl ?_
          refine q_val (ev_lenSlice (e := 182) rfl (by kernel_rfl)) rfl ?_
          refine q_val (ev_bF (ev_eqI rfl rfl) (by first | assumption | omega)) rfl ?_
          refine q_nil ?_
          refine run_cond (t := false) rfl ?_
          refine run_skip ?_
          have hs : d.step = { d with at_ := a } := by
            unfold D.step
            rw [if_neg hy, ← hp]
            simp only [D.move, List.getElem?_eq_getElem hl, hc, D.turned]
            rw [if_neg (by omega)]
          subst hR
          refine Run.perm ?_ (dict_open (b := b) (to := to) (ty := ty) (d := { d with at_ := a }) (F := F) τK ho hy).symm
          rw [← hs]
          exact end_spec Tryz.func147 rfl rfl ⟨to, ty, rfl⟩
        | cons x r =>
          have hcc : d.old[a]? = some d.old[a] := List.getElem?_eq_getElem hl
          rw [hc] at hcell
          obtain ⟨xk, xe, xv⟩ := x
          change (tabCells d.old)[a]? = some (.pointer (some ⟨xe, 0, none⟩)) at hcell
          refine run_seq ?_
          refine run_seq ?_
          refine run_quiet (by kernel_rfl) (by kernel_rfl) ?_
          refine q_val (ev_move rfl) rfl ?_
          refine q_val (ev_nilCheck rfl) rfl ?_
          refine q_val (ev_fieldAddr0 3 rfl (by kernel_rfl)) rfl ?_
          refine q_val (ev_load rfl (by kernel_rfl)) rfl ?_
          refine q_val (ev_move rfl) rfl ?_
          refine q_val (ev_nilCheck rfl) rfl ?_
          refine q_val (ev_fieldAddr0 1 rfl (by kernel_rfl)) rfl ?_
          refine q_val (ev_load rfl (by kernel_rfl)) rfl ?_
          refine q_val (ev_lenSlice (e := 182) rfl (by kernel_rfl)) rfl ?_
          refine q_val (ev_bT (ev_lt rfl rfl) (by first | assumption | omega)) rfl ?_
          refine q_val (ev_move rfl) rfl ?_
          refine q_guard rfl rfl rfl ?_
          refine q_val (ev_move rfl) rfl ?_
          refine q_guard rfl rfl rfl ?_
          refine q_val (ev_nilCheck rfl) rfl ?_
          refine q_guard rfl rfl rfl ?_
          refine q_val (ev_fieldAddr0 1 rfl (by kernel_rfl)) rfl ?_
          refine q_guard rfl rfl rfl ?_
          refine q_val (ev_load rfl (by kernel_rfl)) rfl ?_
          refine q_guard rfl rfl rfl ?_
          refine q_val (ev_move rfl) rfl ?_
          refine q_guard rfl rfl rfl ?_
          refine q_val (ev_nilCheck rfl) rfl ?_
          refine q_guard rfl rfl rfl ?_
          refine q_val (ev_fieldAddr0 3 rfl (by kernel_rfl)) rfl ?_
          refine q_guard rfl rfl rfl ?_
          refine q_val (ev_load rfl (by kernel_rfl)) rfl ?_
          refine q_guard rfl rfl rfl ?_
          refine q_val (ev_indexAddr1 (e := 182) rfl rfl (by first | assumption | omega) (by kernel_rfl) (by kernel_rfl)) rfl ?_
          refine q_guard rfl rfl rfl ?_
          refine q_val (ev_loadAt rfl (by assumption) (by kernel_rfl)) rfl ?_
          refine q_guard rfl rfl rfl ?_
          refine q_val (ev_neNil rfl rfl (by kernel_rfl)) rfl ?_
          refine q_val (ev_pickT rfl rfl) rfl ?_
          refine q_nil ?_
          refine run_cond (t := true) rfl ?_
          refine run_seq ?_
          refine run_seq ?_
          refine run_quiet (by kernel_rfl) (by kernel_rfl) ?_
          refine q_val (ev_move rfl) rfl ?_
          refine q_val (ev_nilCheck rfl) rfl ?_
          refine q_val (ev_fieldAddr0 1 rfl (by kernel_rfl)) rfl ?_
          refine q_val (ev_load rfl (by kernel_rfl)) rfl ?_
          refine q_val (ev_move rfl) rfl ?_
          refine q_val (ev_nilCheck rfl) rfl ?_
          refine q_val (ev_fieldAddr0 3 rfl (by kernel_rfl)) rfl ?_
          refine q_val (ev_load rfl (by kernel_rfl)) rfl ?_
          refine q_val (ev_indexAddr1 (e := 182) rfl rfl (by first | assumption | omega) (by kernel_rfl) (by kernel_rfl)) rfl ?_
          refine q_val (ev_loadAt rfl (by assumption) (by kernel_rfl)) rfl ?_
          refine q_val (ev_assign rfl) rfl ?_
          refine q_nil ?_
          obtain ⟨Z, hz1, hz2⟩ := row_split τK hcc
          have hkeys := ok.keysO _ (List.getElem_mem hl)
          generalize hcdef : d.old[a] = c at *
          subst hR
          refine Run.perm ?_ (((((hz1.append_right (rowL τK d.young ++ F)).trans (by rw [List.append_assoc])).cons _).cons _).cons _)
          refine Run.perm ?_ ((((List.Perm.append_left (chainP τK none c) (List.perm_append_comm_assoc Z (rowL τK d.young) F)).cons _).cons _).cons _)
          let y (j : Nat) := (c.take j).foldl (D.lay d.seed) d.young
          have hyl (j : Nat) : (y j).length = d.young.length := layAll_length ..
          have hyp := List.length_pos_iff.2 hy
          refine run_while (ι := Nat) (κ := Unit) (fun j => c.length - j) (fun j => j ≤ c.length) (fun j => [(0, .pointer (some ⟨b, 0, none⟩)), (3, .pointer (headP none (c.drop j)))])
            (fun j => Blk b (.cells #[.int .u64 d.seed, .slice (some ⟨to, 0, none⟩) d.old.length d.old.length, .slice (some ⟨ty, 0, none⟩) d.young.length d.young.length, .int .i64 a, .int .i64 d.n] 165 (0, 0)) ::
              Blk to (.cells (tabCells d.old) 182 (0, 0)) :: Blk ty (.cells (tabCells (y j)) 182 (0, 0)) :: (chainP τK none (c.drop j) ++ (rowL τK (y j) ++ (Z ++ F))))
            (fun _ => True) (fun _ => [(0, .pointer (some ⟨b, 0, none⟩))])
            (fun _ => Blk b (.cells #[.int .u64 d.seed, .slice (some ⟨to, 0, none⟩) d.old.length d.old.length, .slice (some ⟨ty, 0, none⟩) d.young.length d.young.length, .int .i64 a, .int .i64 d.n] 165 (0, 0)) ::
              Blk to (.cells (tabCells d.old) 182 (0, 0)) :: Blk ty (.cells (tabCells (y c.length)) 182 (0, 0)) :: (rowL τK (y c.length) ++ (Z ++ F)))
            0 (Nat.zero_le _) ⟨rfl, by simp [hc, headP, look], trivial⟩ (by simp [y]) ?_ ?_
          · intro j hj next out
            by_cases hjl : j < c.length
            · obtain ⟨⟨ek, ee, ev⟩, he⟩ : ∃ x, c[j]? = some x := ⟨_, List.getElem?_eq_getElem hjl⟩
              have hget : c[j] = (ek, ee, ev) := by have := List.getElem?_eq_getElem hjl; rw [he] at this; exact (Option.some.inj this).symm
              have hek : ek.size ≤ 9223372036854775806 := hkeys (ek, ee, ev) (List.mem_of_getElem? he)
              have hdrop : c.drop j = (ek, ee, ev) :: c.drop (j + 1) := by rw [List.drop_eq_getElem_cons hjl, hget]
              have hsl := (slot_lt (seed := d.seed) (key := ek) (len := (y j).length) (by rw [hyl]; omega) (by rw [hyl]; omega)).2.2
              have hyj : y j ≠ [] := by intro h; have := hyl j; rw [h] at this; simp at this; omega
              rw [hdrop]
              simp only [headP_cons, chain_head, List.cons_append]
              refine run_seq ?_
              refine run_seq ?_
              refine run_region ?_
              refine k_val (ev_move rfl) rfl ?_
              refine k_val (ev_neNil rfl rfl (by kernel_rfl)) rfl ?_
              refine run_cond (t := true) rfl ?_
              refine run_skip ?_
              refine run_block ?_
              refine run_seq ?_
              refine run_region ?_
              refine k_val (ev_move rfl) rfl ?_
              refine k_val (ev_nilCheck rfl) rfl ?_
              refine k_val (ev_fieldAddr0 2 rfl (by kernel_rfl)) rfl ?_
              refine k_val (ev_load rfl (by kernel_rfl)) rfl ?_
              refine k_val (ev_assign rfl) rfl ?_
              refine run_seq ?_
              refine run_region ?_
              refine k_val (ev_move rfl) rfl ?_
              refine k_val (ev_move rfl) rfl ?_
              refine k_val (ev_nilCheck rfl) rfl ?_
              refine k_val (ev_fieldAddr0 2 rfl (by kernel_rfl)) rfl ?_
              refine k_val (ev_load rfl (by kernel_rfl)) rfl ?_
              refine k_val (ev_move rfl) rfl ?_
              obtain ⟨c', hc'⟩ : ∃ c', (y j)[slot d.seed ek (y j).length]? = some c' := ⟨_, List.getElem?_eq_getElem hsl⟩
              refine OpK.perm (L' := Blk ee (.cells #[.string ek, ev, .pointer (headP none (c.drop (j + 1)))] 184 (0, 0)) :: Blk ty (.cells (tabCells (y j)) 182 (0, 0)) :: Blk b (.cells #[.int .u64 d.seed, .slice (some ⟨to, 0, none⟩) d.old.length d.old.length, .slice (some ⟨ty, 0, none⟩) d.young.length d.young.length, .int .i64 a, .int .i64 d.n] 165 (0, 0)) :: Blk to (.cells (tabCells d.old) 182 (0, 0)) :: (rowL τK (y j) ++ (chainP τK none (c.drop (j + 1)) ++ (Z ++ F)))) ?_ ?_
              · exact perm4 (List.perm_append_comm_assoc _ _ _)
              · rw [← hyl j]
                refine k_call rfl rfl (by kernel_rfl) (hang_spec (y j) ek c' hek hyj (by rw [hyl]; omega) hc') ?_
                rintro _ _ rfl
                refine run_region ?_
                refine k_val (ev_move rfl) rfl ?_
                refine k_val (ev_assign rfl) rfl ?_
                refine run_inBlock ?_
                have hyn : y (j + 1) = D.lay d.seed (y j) (ek, ee, ev) := by
                  show (c.take (j + 1)).foldl _ _ = _
                  rw [List.take_succ_eq_append_getElem hjl, List.foldl_append, hget]; rfl
                refine Run.perm ?_ (lay_perm τK hc')
                rw [← hyn, hyl j]
                refine Run.perm ?_ (List.Perm.cons _ (List.Perm.cons _ (List.Perm.cons _ (List.perm_append_comm_assoc _ _ _))))
                exact next (j + 1) _ (by omega) (by omega) ⟨rfl, rfl, trivial⟩
            · have hdrop : c.drop j = [] := List.drop_of_length_le (by omega)
              have hjc : j = c.length := by omega
              rw [hdrop]
              simp only [headP_nil, chainP_nil]
              refine run_seq ?_
              refine run_seq ?_
              refine run_region ?_
              refine k_val (ev_move rfl) rfl ?_
              refine k_val (ev_neNil rfl rfl (by kernel_rfl)) rfl ?_
              refine run_cond (t := false) rfl ?_
              subst hjc
              exact run_exit rfl (out () _ trivial ⟨rfl, trivial⟩)
          · rintro _ _
            have hlt : a < (tabCells d.old).size := by rw [tabCells_size]; exact hl
            have hyc : y c.length = c.foldl (D.lay d.seed) d.young := by show (c.take c.length).foldl _ _ = _; rw [List.take_length]
            have hs : d.step = (D.turned { d with young := y c.length, old := d.old.set a [], at_ := a + 1 }) := by
              unfold D.step
              rw [if_neg hy, ← hp]
              rw [hyc]
              simp only [D.move, hcc, hc]
            have hz := (hz2 []).symm
            rw [chainP_nil, List.nil_append] at hz
            have hy' : y c.length ≠ [] := by intro h; have := hyl c.length; rw [h] at this; simp at this; omega
            have ho' : d.old.set a [] ≠ [] := by intro h; have := congrArg List.length h; simp at this; exact ho this
            have hrest : (rowL τK (y c.length) ++ (Z ++ F)).Perm (rowL τK (d.old.set a []) ++ (rowL τK (y c.length) ++ F)) :=
              (List.perm_append_comm_assoc _ _ _).trans (hz.append_right _)
            by_cases hl2 : a + 1 = d.old.length
            · refine run_seq ?_
              refine run_tail 9 (by kernel_rfl) (by kernel_rfl) ?_
              refine q_val (ev_move rfl) rfl ?_
              refine q_val (ev_nilCheck rfl) rfl ?_
              refine q_val (ev_fieldAddr0 1 rfl (by kernel_rfl)) rfl ?_
              refine q_val (ev_load rfl (by kernel_rfl)) rfl ?_
              refine q_val (ev_move rfl) rfl ?_
              refine q_val (ev_nilCheck rfl) rfl ?_
              refine q_val (ev_fieldAddr0 3 rfl (by kernel_rfl)) rfl ?_
              refine q_val (ev_load rfl (by kernel_rfl)) rfl ?_
              refine q_val (ev_indexAddr1 (e := 182) rfl rfl (by first | assumption | omega) (by kernel_rfl) (by kernel_rfl)) rfl ?_
              refine q_nil ?_
              refine k_storeAt rfl rfl (by assumption) rfl (by kernel_rfl) ?_
              refine run_region ?_
              refine k_val (ev_move rfl) rfl ?_
              refine k_val (ev_nilCheck rfl) rfl ?_
              refine k_val (ev_fieldAddr0 3 rfl (by kernel_rfl)) rfl ?_
              refine k_val (ev_load rfl (by kernel_rfl)) rfl ?_
              refine k_val (ev_addN (n := 1) rfl rfl rfl rfl (by omega)) rfl ?_
              refine k_val (ev_nilCheck rfl) rfl ?_
              refine k_val (ev_fieldAddr0 3 rfl (by kernel_rfl)) rfl ?_
              refine k_store rfl rfl rfl rfl (by kernel_rfl) ?_
              refine run_seq ?_
              refine run_quiet (by kernel_rfl) (by kernel_rfl) ?_
              refine q_val (ev_move rfl) rfl ?_
              refine q_val (ev_nilCheck rfl) rfl ?_
              refine q_val (ev_fieldAddr0 3 rfl (by kernel_rfl)) rfl ?_
              refine q_val (ev_load rfl (by kernel_rfl)) rfl ?_
              refine q_val (ev_move rfl) rfl ?_
              refine q_val (ev_nilCheck rfl) rfl ?_
              refine q_val (ev_fieldAddr0 1 rfl (by kernel_rfl)) rfl ?_
              refine q_val (ev_load rfl (by kernel_rfl)) rfl ?_
              refine q_val (ev_lenSlice (e := 182) rfl (by kernel_rfl)) rfl ?_
              refine q_val (ev_bT (ev_eqI rfl rfl) (by first | assumption | omega)) rfl ?_
              refine q_nil ?_
              refine run_cond (t := true) rfl ?_
              refine run_region ?_
              refine k_val (ev_move rfl) rfl ?_
              refine k_val (ev_move rfl) rfl ?_
              refine k_val (ev_move rfl) rfl ?_
              refine k_val (ev_move rfl) rfl ?_
              refine k_val (ev_nilCheck rfl) rfl ?_
              refine k_val (ev_fieldAddr0 2 rfl (by kernel_rfl)) rfl ?_
              refine k_val (ev_load rfl (by kernel_rfl)) rfl ?_
              refine k_val (ev_nilCheck rfl) rfl ?_
              refine k_val (ev_fieldAddr0 1 rfl (by kernel_rfl)) rfl ?_
              refine k_store rfl rfl rfl rfl (by kernel_rfl) ?_
              refine k_val (ev_nilCheck rfl) rfl ?_
              refine k_val (ev_fieldAddr0 2 rfl (by kernel_rfl)) rfl ?_
              refine k_store rfl rfl rfl rfl (by kernel_rfl) ?_
              refine k_val (ev_nilCheck rfl) rfl ?_
              refine k_val (ev_fieldAddr0 3 rfl (by kernel_rfl)) rfl ?_
              refine k_store rfl rfl rfl rfl (by kernel_rfl) ?_
              refine Run.perm ?_ (List.Perm.cons _ (List.Perm.cons _ (List.Perm.cons _ hrest)))
              have ht : d.step = { d with old := y c.length, young := [], at_ := 0 } := by
                rw [hs]; unfold D.turned; rw [if_pos (by simpa using hl2)]
              rw [← hyl c.length]
              refine Run.mem ?_ (fun w H => dict_turn (d := { d with young := y c.length, old := d.old.set a [], at_ := a + 1 }) τK hy' H)
              rw [← ht]
              exact end_spec Tryz.func147 rfl rfl ⟨ty, 0, rfl⟩
            · refine run_seq ?_
              refine run_tail 9 (by kernel_rfl) (by kernel_rfl) ?_
              refine q_val (ev_move rfl) rfl ?_
              refine q_val (ev_nilCheck rfl) rfl ?_
              refine q_val (ev_fieldAddr0 1 rfl (by kernel_rfl)) rfl ?_
              refine q_val (ev_load rfl (by kernel_rfl)) rfl ?_
              refine q_val (ev_move rfl) rfl ?_
              refine q_val (ev_nilCheck rfl) rfl ?_
              refine q_val (ev_fieldAddr0 3 rfl (by kernel_rfl)) rfl ?_
              refine q_val (ev_load rfl (by kernel_rfl)) rfl ?_
              refine q_val (ev_indexAddr1 (e := 182) rfl rfl (by first | assumption | omega) (by kernel_rfl) (by kernel_rfl)) rfl ?_
              refine q_nil ?_
              refine k_storeAt rfl rfl (by assumption) rfl (by kernel_rfl) ?_
              refine run_region ?_
              refine k_val (ev_move rfl) rfl ?_
              refine k_val (ev_nilCheck rfl) rfl ?_
              refine k_val (ev_fieldAddr0 3 rfl (by kernel_rfl)) rfl ?_
              refine k_val (ev_load rfl (by kernel_rfl)) rfl ?_
              refine k_val (ev_addN (n := 1) rfl rfl rfl rfl (by omega)) rfl ?_
              refine k_val (ev_nilCheck rfl) rfl ?_
              refine k_val (ev_fieldAddr0 3 rfl (by kernel_rfl)) rfl ?_
              refine k_store rfl rfl rfl rfl (by kernel_rfl) ?_
              refine run_seq ?_
              refine run_quiet (by kernel_rfl) (by kernel_rfl) ?_
              refine q_val (ev_move rfl) rfl ?_
              refine q_val (ev_nilCheck rfl) rfl ?_
              refine q_val (ev_fieldAddr0 3 rfl (by kernel_rfl)) rfl ?_
              refine q_val (ev_load rfl (by kernel_rfl)) rfl ?_
              refine q_val (ev_move rfl) rfl ?_
              refine q_val (ev_nilCheck rfl) rfl ?_
              refine q_val (ev_fieldAddr0 1 rfl (by kernel_rfl)) rfl ?_
              refine q_val (ev_load rfl (by kernel_rfl)) rfl ?_
              refine q_val (ev_lenSlice (e := 182) rfl (by kernel_rfl)) rfl ?_
              refine q_val (ev_bF (ev_eqI rfl rfl) (by first | assumption | omega)) rfl ?_
              refine q_nil ?_
              refine run_cond (t := false) rfl ?_
              refine run_skip ?_
              refine Run.perm ?_ (List.Perm.cons _ (List.Perm.cons _ (List.Perm.cons _ hrest)))
              have ht : d.step = { d with young := y c.length, old := d.old.set a [], at_ := a + 1 } := by
                rw [hs]; unfold D.turned; rw [if_neg (by simpa using hl2)]
              have hd := (dict_open (b := b) (to := to) (ty := ty) (d := { d with young := y c.length, old := d.old.set a [], at_ := a + 1 }) (F := F) τK ho' hy').symm
              simp only [List.length_set, hyl, tabCells_set] at hd
              refine Run.perm ?_ hd
              rw [← ht]
              exact end_spec Tryz.func147 rfl rfl ⟨to, ty, rfl⟩
      · have hl' : a = d.old.length := by omega
        refine run_seq ?_
        refine run_seq ?_
        refine run_quiet (by kernel_rfl) (by kernel_rfl) ?_
        refine q_val (ev_move rfl) rfl ?_
        refine q_val (ev_nilCheck rfl) rfl ?_
        refine q_val (ev_fieldAddr0 3 rfl (by kernel_rfl)) rfl ?_
        refine q_val (ev_load rfl (by kernel_rfl)) rfl ?_
        refine q_val (ev_move rfl) rfl ?_
        refine q_val (ev_nilCheck rfl) rfl ?_
        refine q_val (ev_fieldAddr0 1 rfl (by kernel_rfl)) rfl ?_
        refine q_val (ev_load rfl (by kernel_rfl)) rfl ?_
        refine q_val (ev_lenSlice (e := 182) rfl (by kernel_rfl)) rfl ?_
        refine q_val (ev_bF (ev_lt rfl rfl) (by first | assumption | omega)) rfl ?_
        refine q_val (ev_move rfl) rfl ?_
        refine q_skip rfl rfl rfl rfl ?_
        refine q_skip rfl rfl rfl rfl ?_
        refine q_skip rfl rfl rfl rfl ?_
        refine q_skip rfl rfl rfl rfl ?_
        refine q_skip rfl rfl rfl rfl ?_
        refine q_skip rfl rfl rfl rfl ?_
        refine q_skip rfl rfl rfl rfl ?_
        refine q_skip rfl rfl rfl rfl ?_
        refine q_skip rfl rfl rfl rfl ?_
        refine q_skip rfl rfl rfl rfl ?_
        refine q_skip rfl rfl rfl rfl ?_
        refine q_val (ev_pickF rfl rfl) rfl ?_
        refine q_nil ?_
        refine run_cond (t := false) rfl ?_
        refine run_skip ?_
        refine run_seq ?_
        refine run_quiet (by kernel_rfl) (by kernel_rfl) ?_
        refine q_val (ev_move rfl) rfl ?_
        refine q_val (ev_nilCheck rfl) rfl ?_
        refine q_val (ev_fieldAddr0 3 rfl (by kernel_rfl)) rfl ?_
        refine q_val (ev_load rfl (by kernel_rfl)) rfl ?_
        refine q_val (ev_move rfl) rfl ?_
        refine q_val (ev_nilCheck rfl) rfl ?_
        refine q_val (ev_fieldAddr0 1 rfl (by kernel_rfl)) rfl ?_
        refine q_val (ev_load rfl (by kernel_rfl)) rfl ?_
        refine q_val (ev_lenSlice (e := 182) rfl (by kernel_rfl)) rfl ?_
        refine q_val (ev_bT (ev_eqI rfl rfl) (by first | assumption | omega)) rfl ?_
        refine q_nil ?_
        refine run_cond (t := true) rfl ?_
        refine run_region ?_
        refine k_val (ev_move rfl) rfl ?_
        refine k_val (ev_move rfl) rfl ?_
        refine k_val (ev_move rfl) rfl ?_
        refine k_val (ev_move rfl) rfl ?_
        refine k_val (ev_nilCheck rfl) rfl ?_
        refine k_val (ev_fieldAddr0 2 rfl (by kernel_rfl)) rfl ?_
        refine k_val (ev_load rfl (by kernel_rfl)) rfl ?_
        refine k_val (ev_nilCheck rfl) rfl ?_
        refine k_val (ev_fieldAddr0 1 rfl (by kernel_rfl)) rfl ?_
        refine k_store rfl rfl rfl rfl (by kernel_rfl) ?_
        refine k_val (ev_nilCheck rfl) rfl ?_
        refine k_val (ev_fieldAddr0 2 rfl (by kernel_rfl)) rfl ?_
        refine k_store rfl rfl rfl rfl (by kernel_rfl) ?_
        refine k_val (ev_nilCheck rfl) rfl ?_
        refine k_val (ev_fieldAddr0 3 rfl (by kernel_rfl)) rfl ?_
        refine k_store rfl rfl rfl rfl (by kernel_rfl) ?_
        subst hR
        have hs : d.step = { d with old := d.young, young := [], at_ := 0 } := by
          unfold D.step
          rw [if_neg hy, ← hp]
          simp only [D.move, List.getElem?_eq_none (show d.old.length ≤ a by omega), D.turned]
          rw [if_pos hl']
        refine Run.mem ?_ (fun w H => dict_turn τK hy H)
        rw [← hs]
        exact end_spec Tryz.func147 rfl rfl ⟨ty, 0, rfl⟩
end Go.PS
