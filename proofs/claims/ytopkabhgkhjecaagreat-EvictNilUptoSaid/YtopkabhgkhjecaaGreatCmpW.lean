/-
  The order of texts; the library's comparisons, walked; texts sorted.
  Conditions: each contract's own.
-/
import Derived.Test.YtopkabhgkhjecaaGreatSpaceY
import Derived.Test.YtopkabhgkhjecaaGreatOwnR
import Derived.Test.YtopkabhgkhjecaaGreatSortLay
namespace Go.PS
open Go Go.Proofs
set_option maxRecDepth 10000

theorem ltS_eq (a b : ByteArray) : ltS a b = decide (a.data.toList < b.data.toList) := by
  unfold ltS
  rw [bytesLess_eq, ByteArray.toList_eq, ByteArray.toList_eq]
theorem ltS_irrefl (a : ByteArray) : ltS a a = false := by rw [ltS_eq]; simp
theorem ltS_trans {a b c : ByteArray} (h1 : ltS a b = true) (h2 : ltS b c = true) : ltS a c = true := by
  rw [ltS_eq, decide_eq_true_iff] at *
  exact List.lt_trans h1 h2
theorem ltS_tri {a b : ByteArray} (h1 : ltS a b = false) (h2 : ltS b a = false) : a = b := by
  rw [ltS_eq, decide_eq_false_iff_not] at *
  have h3 : b.data.toList ≤ a.data.toList := List.not_lt.1 h1
  have h4 : a.data.toList ≤ b.data.toList := List.not_lt.1 h2
  exact ByteArray.ext (Array.ext' (List.le_antisymm h4 h3))
theorem ltS_asymm {a b : ByteArray} (h : ltS a b = true) : ltS b a = false := by
  cases h2 : ltS b a with
  | false => rfl
  | true => have := ltS_trans h h2; rw [ltS_irrefl] at this; cases this

def cmpI (a b : Int) : Int := if a < b then -1 else if b < a then 1 else 0
def cmpS (a b : ByteArray) : Int := if ltS a b then -1 else if ltS b a then 1 else 0
def orI (a b : Int) : Int := if a ≠ 0 then a else b

section
variable {G : World} {L : List HP}
theorem nan59_spec (a : Int) : Spec Tryz.prog G 114 [.int .i64 a] L fun v L' => v = .bool false ∧ L' = L := by
  refine spec_of_run Tryz.func114 rfl rfl ?_
  refine run_seq ?_
  refine run_region ?_
  refine k_val (ev_assign rfl) rfl ?_
  refine run_seq ?_
  refine run_region ?_
  refine k_val (ev_move rfl) rfl ?_
  refine k_val (ev_move rfl) rfl ?_
  refine k_val (ev_bF (ev_neI rfl rfl) (by first | assumption | omega)) rfl ?_
  refine k_val (ev_assign rfl) rfl ?_
  exact ret_spec Tryz.func114 rfl rfl ⟨by simp [packed], rfl⟩
theorem cmpInt_spec (a b : Int) : Spec Tryz.prog G 59 [.int .i64 a, .int .i64 b] L fun v L' => v = .int .i64 (cmpI a b) ∧ L' = L := by
  refine spec_of_run Tryz.func59 rfl rfl ?_
  refine run_seq ?_
  refine run_region ?_
  refine k_val (ev_assign rfl) rfl ?_
  refine run_seq ?_
  refine run_region ?_
  refine k_val (ev_move rfl) rfl ?_
  refine k_call rfl rfl (by kernel_rfl) (nan59_spec a) ?_
  rintro _ _ ⟨rfl, rfl⟩
  refine k_val (ev_assign rfl) rfl ?_
  refine run_seq ?_
  refine run_region ?_
  refine k_val (ev_move rfl) rfl ?_
  refine k_call rfl rfl (by kernel_rfl) (nan59_spec b) ?_
  rintro _ _ ⟨rfl, rfl⟩
  by_cases h1 : a < b
  · refine k_val (ev_assign rfl) rfl ?_
    refine run_seq ?_
    refine run_seq ?_
    refine run_region ?_
    refine k_val (ev_move rfl) rfl ?_
    refine run_cond (t := false) rfl ?_
    refine run_skip ?_
    refine run_seq ?_
    refine run_seq ?_
    refine run_region ?_
    refine k_val (ev_move rfl) rfl ?_
    refine run_cond (t := false) rfl ?_
    refine run_skip ?_
    refine run_seq ?_
    refine run_seq ?_
    refine run_region ?_
    refine k_val (ev_move rfl) rfl ?_
    refine k_val (ev_move rfl) rfl ?_
    refine k_val (ev_bT (ev_lt rfl rfl) (by first | assumption | omega)) rfl ?_
    refine run_cond (t := true) rfl ?_
    refine run_seq ?_
    refine run_region ?_
    refine k_val (ev_assign rfl) rfl ?_
    exact ret_spec Tryz.func59 rfl rfl ⟨by unfold cmpI; rw [if_pos h1]; rfl, rfl⟩
  · by_cases h2 : b < a
    · refine k_val (ev_assign rfl) rfl ?_
      refine run_seq ?_
      refine run_seq ?_
      refine run_region ?_
      refine k_val (ev_move rfl) rfl ?_
      refine run_cond (t := false) rfl ?_
      refine run_skip ?_
      refine run_seq ?_
      refine run_seq ?_
      refine run_region ?_
      refine k_val (ev_move rfl) rfl ?_
      refine run_cond (t := false) rfl ?_
      refine run_skip ?_
      refine run_seq ?_
      refine run_seq ?_
      refine run_region ?_
      refine k_val (ev_move rfl) rfl ?_
      refine k_val (ev_move rfl) rfl ?_
      refine k_val (ev_bF (ev_lt rfl rfl) (by first | assumption | omega)) rfl ?_
      refine run_cond (t := false) rfl ?_
      refine run_skip ?_
      refine run_seq ?_
      refine run_seq ?_
      refine run_region ?_
      refine k_val (ev_move rfl) rfl ?_
      refine k_val (ev_move rfl) rfl ?_
      refine k_val (ev_bT (ev_gt rfl rfl) (by first | assumption | omega)) rfl ?_
      refine run_cond (t := true) rfl ?_
      refine run_seq ?_
      refine run_region ?_
      refine k_val (ev_assign rfl) rfl ?_
      exact ret_spec Tryz.func59 rfl rfl ⟨by unfold cmpI; rw [if_neg h1, if_pos h2]; rfl, rfl⟩
    · refine k_val (ev_assign rfl) rfl ?_
      refine run_seq ?_
      refine run_seq ?_
      refine run_region ?_
      refine k_val (ev_move rfl) rfl ?_
      refine run_cond (t := false) rfl ?_
      refine run_skip ?_
      refine run_seq ?_
      refine run_seq ?_
      refine run_region ?_
      refine k_val (ev_move rfl) rfl ?_
      refine run_cond (t := false) rfl ?_
      refine run_skip ?_
      refine run_seq ?_
      refine run_seq ?_
      refine run_region ?_
      refine k_val (ev_move rfl) rfl ?_
      refine k_val (ev_move rfl) rfl ?_
      refine k_val (ev_bF (ev_lt rfl rfl) (by first | assumption | omega)) rfl ?_
      refine run_cond (t := false) rfl ?_
      refine run_skip ?_
      refine run_seq ?_
      refine run_seq ?_
      refine run_region ?_
      refine k_val (ev_move rfl) rfl ?_
      refine k_val (ev_move rfl) rfl ?_
      refine k_val (ev_bF (ev_gt rfl rfl) (by first | assumption | omega)) rfl ?_
      refine run_cond (t := false) rfl ?_
      refine run_skip ?_
      refine run_seq ?_
      refine run_region ?_
      refine k_val (ev_assign rfl) rfl ?_
      exact ret_spec Tryz.func59 rfl rfl ⟨by unfold cmpI; rw [if_neg h1, if_neg h2]; rfl, rfl⟩
theorem nan196_spec (a : Int) : Spec Tryz.prog G 225 [.int .u64 a] L fun v L' => v = .bool false ∧ L' = L := by
  refine spec_of_run Tryz.func225 rfl rfl ?_
  refine run_seq ?_
  refine run_region ?_
  refine k_val (ev_assign rfl) rfl ?_
  refine run_seq ?_
  refine run_region ?_
  refine k_val (ev_move rfl) rfl ?_
  refine k_val (ev_move rfl) rfl ?_
  refine k_val (ev_bF (ev_neI rfl rfl) (by first | assumption | omega)) rfl ?_
  refine k_val (ev_assign rfl) rfl ?_
  exact ret_spec Tryz.func225 rfl rfl ⟨by simp [packed], rfl⟩
theorem cmpU_spec (a b : Int) : Spec Tryz.prog G 196 [.int .u64 a, .int .u64 b] L fun v L' => v = .int .i64 (cmpI a b) ∧ L' = L := by
  refine spec_of_run Tryz.func196 rfl rfl ?_
  refine run_seq ?_
  refine run_region ?_
  refine k_val (ev_assign rfl) rfl ?_
  refine run_seq ?_
  refine run_region ?_
  refine k_val (ev_move rfl) rfl ?_
  refine k_call rfl rfl (by kernel_rfl) (nan196_spec a) ?_
  rintro _ _ ⟨rfl, rfl⟩
  refine k_val (ev_assign rfl) rfl ?_
  refine run_seq ?_
  refine run_region ?_
  refine k_val (ev_move rfl) rfl ?_
  refine k_call rfl rfl (by kernel_rfl) (nan196_spec b) ?_
  rintro _ _ ⟨rfl, rfl⟩
  by_cases h1 : a < b
  · refine k_val (ev_assign rfl) rfl ?_
    refine run_seq ?_
    refine run_seq ?_
    refine run_region ?_
    refine k_val (ev_move rfl) rfl ?_
    refine run_cond (t := false) rfl ?_
    refine run_skip ?_
    refine run_seq ?_
    refine run_seq ?_
    refine run_region ?_
    refine k_val (ev_move rfl) rfl ?_
    refine run_cond (t := false) rfl ?_
    refine run_skip ?_
    refine run_seq ?_
    refine run_seq ?_
    refine run_region ?_
    refine k_val (ev_move rfl) rfl ?_
    refine k_val (ev_move rfl) rfl ?_
    refine k_val (ev_bT (ev_lt rfl rfl) (by first | assumption | omega)) rfl ?_
    refine run_cond (t := true) rfl ?_
    refine run_seq ?_
    refine run_region ?_
    refine k_val (ev_assign rfl) rfl ?_
    exact ret_spec Tryz.func196 rfl rfl ⟨by unfold cmpI; rw [if_pos h1]; rfl, rfl⟩
  · by_cases h2 : b < a
    · refine k_val (ev_assign rfl) rfl ?_
      refine run_seq ?_
      refine run_seq ?_
      refine run_region ?_
      refine k_val (ev_move rfl) rfl ?_
      refine run_cond (t := false) rfl ?_
      refine run_skip ?_
      refine run_seq ?_
      refine run_seq ?_
      refine run_region ?_
      refine k_val (ev_move rfl) rfl ?_
      refine run_cond (t := false) rfl ?_
      refine run_skip ?_
      refine run_seq ?_
      refine run_seq ?_
      refine run_region ?_
      refine k_val (ev_move rfl) rfl ?_
      refine k_val (ev_move rfl) rfl ?_
      refine k_val (ev_bF (ev_lt rfl rfl) (by first | assumption | omega)) rfl ?_
      refine run_cond (t := false) rfl ?_
      refine run_skip ?_
      refine run_seq ?_
      refine run_seq ?_
      refine run_region ?_
      refine k_val (ev_move rfl) rfl ?_
      refine k_val (ev_move rfl) rfl ?_
      refine k_val (ev_bT (ev_gt rfl rfl) (by first | assumption | omega)) rfl ?_
      refine run_cond (t := true) rfl ?_
      refine run_seq ?_
      refine run_region ?_
      refine k_val (ev_assign rfl) rfl ?_
      exact ret_spec Tryz.func196 rfl rfl ⟨by unfold cmpI; rw [if_neg h1, if_pos h2]; rfl, rfl⟩
    · refine k_val (ev_assign rfl) rfl ?_
      refine run_seq ?_
      refine run_seq ?_
      refine run_region ?_
      refine k_val (ev_move rfl) rfl ?_
      refine run_cond (t := false) rfl ?_
      refine run_skip ?_
      refine run_seq ?_
      refine run_seq ?_
      refine run_region ?_
      refine k_val (ev_move rfl) rfl ?_
      refine run_cond (t := false) rfl ?_
      refine run_skip ?_
      refine run_seq ?_
      refine run_seq ?_
      refine run_region ?_
      refine k_val (ev_move rfl) rfl ?_
      refine k_val (ev_move rfl) rfl ?_
      refine k_val (ev_bF (ev_lt rfl rfl) (by first | assumption | omega)) rfl ?_
      refine run_cond (t := false) rfl ?_
      refine run_skip ?_
      refine run_seq ?_
      refine run_seq ?_
      refine run_region ?_
      refine k_val (ev_move rfl) rfl ?_
      refine k_val (ev_move rfl) rfl ?_
      refine k_val (ev_bF (ev_gt rfl rfl) (by first | assumption | omega)) rfl ?_
      refine run_cond (t := false) rfl ?_
      refine run_skip ?_
      refine run_seq ?_
      refine run_region ?_
      refine k_val (ev_assign rfl) rfl ?_
      exact ret_spec Tryz.func196 rfl rfl ⟨by unfold cmpI; rw [if_neg h1, if_neg h2]; rfl, rfl⟩
theorem nan60_spec (a : ByteArray) : Spec Tryz.prog G 115 [.string a] L fun v L' => v = .bool false ∧ L' = L := by
  refine spec_of_run Tryz.func115 rfl rfl ?_
  refine run_seq ?_
  refine run_region ?_
  refine k_val (ev_assign rfl) rfl ?_
  refine run_seq ?_
  refine run_region ?_
  refine k_val (ev_move rfl) rfl ?_
  refine k_val (ev_move rfl) rfl ?_
  refine k_val (ev_neS rfl rfl) rfl ?_
  refine k_val (ev_assign rfl) rfl ?_
  exact ret_spec Tryz.func115 rfl rfl ⟨by simp [packed], rfl⟩
theorem cmpStr_spec (a b : ByteArray) : Spec Tryz.prog G 60 [.string a, .string b] L fun v L' => v = .int .i64 (cmpS a b) ∧ L' = L := by
  refine spec_of_run Tryz.func60 rfl rfl ?_
  refine run_seq ?_
  refine run_region ?_
  refine k_val (ev_assign rfl) rfl ?_
  refine run_seq ?_
  refine run_region ?_
  refine k_val (ev_move rfl) rfl ?_
  refine k_call rfl rfl (by kernel_rfl) (nan60_spec a) ?_
  rintro _ _ ⟨rfl, rfl⟩
  refine k_val (ev_assign rfl) rfl ?_
  refine run_seq ?_
  refine run_region ?_
  refine k_val (ev_move rfl) rfl ?_
  refine k_call rfl rfl (by kernel_rfl) (nan60_spec b) ?_
  rintro _ _ ⟨rfl, rfl⟩
  refine k_val (ev_assign rfl) rfl ?_
  refine run_seq ?_
  refine run_seq ?_
  refine run_region ?_
  refine k_val (ev_move rfl) rfl ?_
  refine run_cond (t := false) rfl ?_
  refine run_skip ?_
  refine run_seq ?_
  refine run_seq ?_
  refine run_region ?_
  refine k_val (ev_move rfl) rfl ?_
  refine run_cond (t := false) rfl ?_
  refine run_skip ?_
  refine run_seq ?_
  refine run_seq ?_
  refine run_region ?_
  refine k_val (ev_move rfl) rfl ?_
  refine k_val (ev_move rfl) rfl ?_
  refine k_val (ev_ltS rfl rfl) rfl ?_
  refine run_ifB rfl ?_ ?_
  · intro h1
    refine run_seq ?_
    refine run_region ?_
    refine k_val (ev_assign rfl) rfl ?_
    exact ret_spec Tryz.func60 rfl rfl ⟨by unfold cmpS; rw [h1]; rfl, rfl⟩
  · intro h1
    refine run_skip ?_
    refine run_seq ?_
    refine run_seq ?_
    refine run_region ?_
    refine k_val (ev_move rfl) rfl ?_
    refine k_val (ev_move rfl) rfl ?_
    refine k_val (ev_gtS rfl rfl) rfl ?_
    refine run_ifB rfl ?_ ?_
    · intro h2
      refine run_seq ?_
      refine run_region ?_
      refine k_val (ev_assign rfl) rfl ?_
      refine ret_spec Tryz.func60 rfl rfl ⟨?_, rfl⟩
      have h3 : ltS b a = true := by
        cases h3 : ltS b a with
        | true => rfl
        | false => rw [h1, ltS_tri h1 h3] at h2; simp at h2
      unfold cmpS; rw [h1, h3]; rfl
    · intro h2
      refine run_skip ?_
      refine run_seq ?_
      refine run_region ?_
      refine k_val (ev_assign rfl) rfl ?_
      refine ret_spec Tryz.func60 rfl rfl ⟨?_, rfl⟩
      have h3 : a = b := by
        rw [h1] at h2
        simpa using h2
      unfold cmpS; rw [h1, h3, ltS_irrefl]; rfl
theorem or_spec (a b : Int) {p n : Nat} [Reads G L p #[.int .i64 a, .int .i64 b]] : Spec Tryz.prog G 58 [.slice (some ⟨p, 0, none⟩) 2 n] L fun v L' => v = .int .i64 (orI a b) ∧ L' = L := by
  refine spec_of_run Tryz.func58 rfl rfl ?_
  refine run_seq ?_
  refine run_region ?_
  refine k_val (ev_assign rfl) rfl ?_
  refine run_seq ?_
  refine run_region ?_
  refine k_val (ev_assign rfl) rfl ?_
  refine run_seq ?_
  refine run_seq ?_
  refine run_region ?_
  refine k_val (ev_move rfl) rfl ?_
  refine k_val (ev_lenSlice (e := 3) rfl (by kernel_rfl)) rfl ?_
  refine k_val (ev_move rfl) rfl ?_
  refine run_while (ι := Nat) (κ := Unit) (fun i => 2 - i) (fun i => i ≤ 2 ∧ (1 ≤ i → a = 0) ∧ (2 ≤ i → b = 0)) (fun i => [(3, .int .i64 0), (6, .slice (some ⟨p, 0, none⟩) 2 n), (7, .int .i64 (2 : Nat)), (8, .int .i64 i)]) (fun _ => L)
    (fun _ => a = 0 ∧ b = 0) (fun _ => [(3, .int .i64 0)]) (fun _ => L) 0 ⟨by omega, by omega, by omega⟩ ⟨rfl, rfl, rfl, rfl, trivial⟩ rfl ?_ ?_
  · rintro i ⟨h1, h2, h3⟩ next out
    by_cases hi : i < 2
    · have hc : i = 0 ∨ i = 1 := by omega
      rcases hc with rfl | rfl
      · by_cases ha : a = 0
        · refine run_seq ?_
          refine run_region ?_
          refine k_val (ev_bT (ev_lt rfl rfl) (by first | assumption | omega)) rfl ?_
          refine run_seq ?_
          refine run_cond (t := true) rfl ?_
          refine run_skip ?_
          refine run_seq ?_
          refine run_block ?_
          refine run_seq ?_
          refine run_region ?_
          refine k_val (ev_indexAddr1 (e := 3) rfl rfl (by first | assumption | omega) (by kernel_rfl) (by kernel_rfl)) rfl ?_
          refine k_val (ev_load rfl (by kernel_rfl)) rfl ?_
          refine k_val (ev_assign rfl) rfl ?_
          refine run_seq ?_
          refine run_region ?_
          refine k_val (ev_move rfl) rfl ?_
          refine k_val (ev_move rfl) rfl ?_
          refine k_val (ev_bF (ev_neI rfl rfl) (by first | assumption | omega)) rfl ?_
          refine run_cond (t := false) rfl ?_
          refine run_skip ?_
          refine run_inBlock ?_
          refine run_region ?_
          refine k_val (ev_addN (n := 1) rfl rfl rfl rfl (by omega)) rfl ?_
          refine k_val (ev_move rfl) rfl ?_
          refine next 1 _ (by omega) ⟨by omega, fun _ => ha, by omega⟩ ?_
          exact ⟨rfl, rfl, rfl, rfl, trivial⟩
        · refine run_seq ?_
          refine run_region ?_
          refine k_val (ev_bT (ev_lt rfl rfl) (by first | assumption | omega)) rfl ?_
          refine run_seq ?_
          refine run_cond (t := true) rfl ?_
          refine run_skip ?_
          refine run_seq ?_
          refine run_block ?_
          refine run_seq ?_
          refine run_region ?_
          refine k_val (ev_indexAddr1 (e := 3) rfl rfl (by first | assumption | omega) (by kernel_rfl) (by kernel_rfl)) rfl ?_
          refine k_val (ev_load rfl (by kernel_rfl)) rfl ?_
          refine k_val (ev_assign rfl) rfl ?_
          refine run_seq ?_
          refine run_region ?_
          refine k_val (ev_move rfl) rfl ?_
          refine k_val (ev_move rfl) rfl ?_
          refine k_val (ev_bT (ev_neI rfl rfl) (by first | assumption | omega)) rfl ?_
          refine run_cond (t := true) rfl ?_
          refine run_seq ?_
          refine run_region ?_
          refine k_val (ev_move rfl) rfl ?_
          refine k_val (ev_assign rfl) rfl ?_
          exact ret_spec Tryz.func58 rfl rfl ⟨by unfold orI; rw [if_pos ha]; rfl, rfl⟩
      · have ha := h2 (by omega)
        by_cases hb : b = 0
        · refine run_seq ?_
          refine run_region ?_
          refine k_val (ev_bT (ev_lt rfl rfl) (by first | assumption | omega)) rfl ?_
          refine run_seq ?_
          refine run_cond (t := true) rfl ?_
          refine run_skip ?_
          refine run_seq ?_
          refine run_block ?_
          refine run_seq ?_
          refine run_region ?_
          refine k_val (ev_indexAddr1 (e := 3) rfl rfl (by first | assumption | omega) (by kernel_rfl) (by kernel_rfl)) rfl ?_
          refine k_val (ev_load rfl (by kernel_rfl)) rfl ?_
          refine k_val (ev_assign rfl) rfl ?_
          refine run_seq ?_
          refine run_region ?_
          refine k_val (ev_move rfl) rfl ?_
          refine k_val (ev_move rfl) rfl ?_
          refine k_val (ev_bF (ev_neI rfl rfl) (by first | assumption | omega)) rfl ?_
          refine run_cond (t := false) rfl ?_
          refine run_skip ?_
          refine run_inBlock ?_
          refine run_region ?_
          refine k_val (ev_addN (n := 1) rfl rfl rfl rfl (by omega)) rfl ?_
          refine k_val (ev_move rfl) rfl ?_
          refine next 2 _ (by omega) ⟨by omega, fun _ => ha, fun _ => hb⟩ ?_
          exact ⟨rfl, rfl, rfl, rfl, trivial⟩
        · refine run_seq ?_
          refine run_region ?_
          refine k_val (ev_bT (ev_lt rfl rfl) (by first | assumption | omega)) rfl ?_
          refine run_seq ?_
          refine run_cond (t := true) rfl ?_
          refine run_skip ?_
          refine run_seq ?_
          refine run_block ?_
          refine run_seq ?_
          refine run_region ?_
          refine k_val (ev_indexAddr1 (e := 3) rfl rfl (by first | assumption | omega) (by kernel_rfl) (by kernel_rfl)) rfl ?_
          refine k_val (ev_load rfl (by kernel_rfl)) rfl ?_
          refine k_val (ev_assign rfl) rfl ?_
          refine run_seq ?_
          refine run_region ?_
          refine k_val (ev_move rfl) rfl ?_
          refine k_val (ev_move rfl) rfl ?_
          refine k_val (ev_bT (ev_neI rfl rfl) (by first | assumption | omega)) rfl ?_
          refine run_cond (t := true) rfl ?_
          refine run_seq ?_
          refine run_region ?_
          refine k_val (ev_move rfl) rfl ?_
          refine k_val (ev_assign rfl) rfl ?_
          exact ret_spec Tryz.func58 rfl rfl ⟨by unfold orI; rw [if_neg (by simp [ha])]; rfl, rfl⟩
    · refine run_seq ?_
      refine run_region ?_
      refine k_val (ev_bF (ev_lt rfl rfl) (by first | assumption | omega)) rfl ?_
      refine run_seq ?_
      refine run_cond (t := false) rfl ?_
      refine run_exit rfl (out () _ ⟨h2 (by omega), h3 (by omega)⟩ ?_)
      exact ⟨rfl, trivial⟩
  · rintro _ ⟨ha, hb⟩
    refine run_seq ?_
    refine run_region ?_
    refine k_val (ev_move rfl) rfl ?_
    refine k_val (ev_assign rfl) rfl ?_
    exact ret_spec Tryz.func58 rfl rfl ⟨by unfold orI; rw [ha, hb]; rfl, rfl⟩

theorem orI_lt {a b : Int} : orI a b < 0 ↔ a < 0 ∨ (a = 0 ∧ b < 0) := by
  unfold orI
  split
  · constructor
    · intro h; exact .inl h
    · rintro (h | ⟨h, _⟩)
      · exact h
      · contradiction
  · rename_i h
    have h0 : a = 0 := by omega
    subst h0
    simp
theorem cmpI_lt {a b : Int} : cmpI a b < 0 ↔ a < b := by
  unfold cmpI
  split
  · simp [*]
  · split <;> simp [*]
theorem cmpI_eq {a b : Int} : cmpI a b = 0 ↔ a = b := by
  unfold cmpI
  split
  · simp; omega
  · split
    · simp; omega
    · simp; omega
theorem cmpS_lt {a b : ByteArray} : cmpS a b < 0 ↔ ltS a b = true := by
  unfold cmpS
  split
  · simp [*]
  · split <;> simp [*]
/-- First by a number, then by a text. -/
def lt2 (x y : Int × ByteArray) : Bool := decide (x.1 < y.1 ∨ (x.1 = y.1 ∧ ltS x.2 y.2 = true))
theorem or_lt2 (x y : Int × ByteArray) : decide (orI (cmpI x.1 y.1) (cmpS x.2 y.2) < 0) = lt2 x y := by
  unfold lt2
  rw [decide_eq_decide, orI_lt, cmpI_lt, cmpI_eq, cmpS_lt]
theorem lt2_irrefl (x : Int × ByteArray) : lt2 x x = false := by unfold lt2; simp [ltS_irrefl]
theorem lt2_trans {x y z : Int × ByteArray} (h1 : lt2 x y = true) (h2 : lt2 y z = true) : lt2 x z = true := by
  unfold lt2 at *
  rw [decide_eq_true_iff] at *
  rcases h1 with h1 | ⟨h1, h1'⟩ <;> rcases h2 with h2 | ⟨h2, h2'⟩
  · exact .inl (by omega)
  · exact .inl (by omega)
  · exact .inl (by omega)
  · exact .inr ⟨by omega, ltS_trans h1' h2'⟩
theorem lt2_tri {x y : Int × ByteArray} (h1 : lt2 x y = false) (h2 : lt2 y x = false) : x = y := by
  unfold lt2 at *
  rw [decide_eq_false_iff_not, not_or] at *
  have e : x.1 = y.1 := by omega
  have h3 : ltS x.2 y.2 = false := by
    cases h : ltS x.2 y.2 with
    | false => rfl
    | true => exact absurd ⟨e, h⟩ h1.2
  have h4 : ltS y.2 x.2 = false := by
    cases h : ltS y.2 x.2 with
    | false => rfl
    | true => exact absurd ⟨e.symm, h⟩ h2.2
  exact Prod.ext e (ltS_tri h3 h4)
theorem tri_ntrans {α : Type} {lt : α → α → Bool} (hi : ∀ x, lt x x = false) (ht : ∀ x y z, lt x y = true → lt y z = true → lt x z = true) (h3 : ∀ x y, lt x y = false → lt y x = false → x = y) : Go.Sort.SWO lt := by
  refine ⟨hi, ht, fun x y z h1 h2 => ?_⟩
  cases hxz : lt x z with
  | false => rfl
  | true =>
    exfalso
    cases hzy : lt z y with
    | true => rw [ht x z y hxz hzy] at h1; cases h1
    | false =>
      have e := h3 y z h2 hzy
      subst e
      rw [hxz] at h1; cases h1
end
end Go.PS
