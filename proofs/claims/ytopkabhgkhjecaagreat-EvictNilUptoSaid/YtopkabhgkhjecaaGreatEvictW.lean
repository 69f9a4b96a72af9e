/-
  Ranking, rounds, walked.
  Conditions: each contract's own.
-/
import Derived.Test.YtopkabhgkhjecaaGreatDrawW
namespace Go.PS
open Go Go.Proofs Go.Shelf
set_option maxRecDepth 10000

/-- A key's rank, and whether it has one. -/
noncomputable def Sp.rank {α : Type} (s : Sp α) (pol : Int) (key : ByteArray) : Int × Bool :=
  if pol = 1 then (if s.there key then (s.ent key).stamp else 0, s.there key)
  else (IntKind.u64.wrap (if s.there key then (s.ent key).at_ else 0), s.there key && decide ((s.ent key).at_ ≠ 0))
def rkV (pol : Int) (b bx : Nat) : Value := if pol = 1 then .func (.func 19) #[ptrV b] #[] else if pol = 2 then .func (.func 94) #[] #[ptrV bx] else .nilFunc
theorem rkV_1 {b bx : Nat} : rkV 1 b bx = .func (.func 19) #[ptrV b] #[] := if_pos rfl
theorem rkV_2 {b bx : Nat} : rkV 2 b bx = .func (.func 94) #[] #[ptrV bx] := by unfold rkV; rw [if_neg (by decide), if_pos rfl]
theorem rkV_one (pol : Int) (b bx : Nat) : (rkV pol b bx).oneCell' = true := by
  unfold rkV; split
  · rfl
  · split <;> rfl

section
variable {G : World} {L F : List HP} {b bx : Nat} {s : Sp Unit}

theorem rank2_spec {key : ByteArray} (ok : s.Ok) (hv : s.vol ≤ 1099511627776) (hkey : key.size ≤ 9223372036854775806) : Spec Tryz.prog G 94 [.string key, ptrV bx] (SpA b s :: Blk bx (.cells #[ptrV b] 26 (0, 0)) :: F) fun v L' =>
    v = .tuple #[.int .u64 (s.rank 2 key).1, .bool (s.rank 2 key).2] ∧ L' = SpA b (s.met key) :: Blk bx (.cells #[ptrV b] 26 (0, 0)) :: F := by
  refine spec_of_run Tryz.func94 rfl rfl ?_
  refine run_seq ?_
  refine run_region ?_
  refine k_val (ev_assign rfl) rfl ?_
  refine k_val (ev_assign rfl) rfl ?_
  refine run_seq ?_
  refine run_region ?_
  refine k_val (ev_load rfl (by kernel_rfl)) rfl ?_
  refine k_val (ev_move rfl) rfl ?_
  refine k_call rfl rfl (by kernel_rfl) (deadlineS_spec ok hv hkey) ?_
  rintro _ _ ⟨rfl, rfl⟩
  refine k_val (ev_move rfl) rfl ?_
  refine k_val (ev_extract rfl rfl) rfl ?_
  refine k_val (ev_extract rfl rfl) rfl ?_
  refine k_val (ev_assign rfl) rfl ?_
  refine k_val (ev_assign rfl) rfl ?_
  refine run_seq ?_
  refine run_region ?_
  refine k_val (ev_move rfl) rfl ?_
  refine k_val (ev_convI .u64 rfl (by kernel_rfl) (by kernel_rfl)) rfl ?_
  refine k_val (ev_move rfl) rfl ?_
  refine k_val (ev_assign rfl) rfl ?_
  refine k_val (ev_assign rfl) rfl ?_
  exact ret_spec Tryz.func94 rfl rfl ⟨rfl, rfl⟩
theorem rank_spec {pol : Int} {key : ByteArray} (hp : pol = 1 ∨ pol = 2) (ok : s.Ok) (hv : s.vol ≤ 1099511627776) (hkey : key.size ≤ 9223372036854775806) : SpecV Tryz.prog G (rkV pol b bx) [.string key] (SpA b s :: Blk bx (.cells #[ptrV b] 26 (0, 0)) :: F) fun v L' =>
    v = .tuple #[.int .u64 (s.rank pol key).1, .bool (s.rank pol key).2] ∧ L' = SpA b (s.met key) :: Blk bx (.cells #[ptrV b] 26 (0, 0)) :: F := by
  rcases hp with rfl | rfl
  · rw [rkV_1]
    refine specV_func (us := [ptrV b]) (cap := []) (by kernel_rfl) ?_
    exact (stampS_spec ok hv hkey).mono fun _ _ h => h
  · rw [rkV_2]
    exact specV_func (us := []) (cap := [ptrV bx]) (by kernel_rfl) (rank2_spec ok hv hkey)
theorem ranking_spec : Spec Tryz.prog G 46 [ptrV b] (SpA b s :: F) fun v L' => ∃ bx X, v = .tuple #[.agg #[.bool (decide (s.cfg.policy = 1)), rkV s.cfg.policy b bx], .bool (decide (s.cfg.policy = 1 ∨ s.cfg.policy = 2))] ∧ L' = SpA b s :: X :: Blk bx (.cells #[ptrV b] 26 (0, 0)) :: F := by
  refine spec_of_run Tryz.func46 rfl rfl ?_
  refine run_seq ?_
  refine run_region ?_
  refine k_box rfl rfl rfl ?_
  intro nb1
  refine k_alloc (#[.bool false, .nilFunc]) (by kernel_rfl) rfl ?_
  intro nb2
  refine k_val (ev_assign rfl) rfl ?_
  refine run_seq ?_
  refine run_seq ?_
  refine run_region ?_
  refine k_val (ev_load rfl (by kernel_rfl)) rfl ?_
  refine OpK.perm (L' := SpA b s :: Blk nb2 (.cells #[.bool false, .nilFunc] 100 (0, 0)) :: Blk nb1 (.cells #[ptrV b] 26 (0, 0)) :: F) (by exact perm_pick [2, 0, 0] _) ?_
  refine k_call rfl rfl (by kernel_rfl) configS_spec ?_
  rintro _ _ ⟨rfl, rfl⟩
  by_cases h1 : s.cfg.policy = 1
  · refine k_val (ev_field 2 rfl (by kernel_rfl)) rfl ?_
    refine run_block ?_
    refine run_seq ?_
    refine run_region ?_
    refine k_val (ev_bT (ev_eqI rfl rfl) (by first | assumption | omega)) rfl ?_
    refine k_val (ev_assign rfl) rfl ?_
    refine run_cond (t := true) rfl ?_
    refine run_seq ?_
    refine run_region ?_
    refine k_val (ev_load rfl (by kernel_rfl)) rfl ?_
    refine k_val (ev_makeFunc rfl rfl) rfl ?_
    refine k_val (ev_build1 [.bool false, .nilFunc] [0, 1] (by kernel_rfl) (by kernel_rfl) rfl rfl rfl) rfl ?_
    refine k_storeAllS 2 rfl rfl rfl rfl rfl (by kernel_rfl) ?_
    refine k_val (ev_assign rfl) rfl ?_
    exact ret_specR Tryz.func46 rfl (resR_cell rfl (by kernel_rfl) (resR_tmp rfl resR_nil)) ⟨nb1, _, by simp [rkV, h1, packed, ptrV], rfl⟩
  by_cases h2 : s.cfg.policy = 2
  · refine k_val (ev_field 2 rfl (by kernel_rfl)) rfl ?_
    refine run_block ?_
    refine run_seq ?_
    refine run_region ?_
    refine k_val (ev_bF (ev_eqI rfl rfl) (by first | assumption | omega)) rfl ?_
    refine k_val (ev_assign rfl) rfl ?_
    refine run_cond (t := false) rfl ?_
    refine run_seq ?_
    refine run_region ?_
    refine k_val (ev_bT (ev_eqI rfl rfl) (by first | assumption | omega)) rfl ?_
    refine k_val (ev_assign rfl) rfl ?_
    refine run_cond (t := true) rfl ?_
    refine run_seq ?_
    refine run_region ?_
    refine k_val (ev_makeFunc rfl rfl) rfl ?_
    refine k_val (ev_build1 [.bool false, .nilFunc] [0, 1] (by kernel_rfl) (by kernel_rfl) rfl rfl rfl) rfl ?_
    refine k_storeAllS 2 rfl rfl rfl rfl rfl (by kernel_rfl) ?_
    refine k_val (ev_assign rfl) rfl ?_
    exact ret_specR Tryz.func46 rfl (resR_cell rfl (by kernel_rfl) (resR_tmp rfl resR_nil)) ⟨nb1, _, by simp [rkV, h1, h2, packed, ptrV], rfl⟩
  refine k_val (ev_field 2 rfl (by kernel_rfl)) rfl ?_
  refine run_block ?_
  refine run_seq ?_
  refine run_region ?_
  refine k_val (ev_bF (ev_eqI rfl rfl) (by first | assumption | omega)) rfl ?_
  refine k_val (ev_assign rfl) rfl ?_
  refine run_cond (t := false) rfl ?_
  refine run_seq ?_
  refine run_region ?_
  refine k_val (ev_bF (ev_eqI rfl rfl) (by first | assumption | omega)) rfl ?_
  refine k_val (ev_assign rfl) rfl ?_
  refine run_cond (t := false) rfl ?_
  refine run_skip ?_
  refine run_inBlock ?_
  refine run_seq ?_
  refine run_region ?_
  refine k_val (ev_build1 [.bool false, .nilFunc] [] (by kernel_rfl) (by kernel_rfl) rfl rfl rfl) rfl ?_
  refine k_storeAllS 2 rfl rfl rfl rfl rfl (by kernel_rfl) ?_
  refine k_val (ev_assign rfl) rfl ?_
  exact ret_specR Tryz.func46 rfl (resR_cell rfl (by kernel_rfl) (resR_tmp rfl resR_nil)) ⟨nb1, _, by simp [rkV, h1, h2, packed, ptrV], rfl⟩
end
end Go.PS
