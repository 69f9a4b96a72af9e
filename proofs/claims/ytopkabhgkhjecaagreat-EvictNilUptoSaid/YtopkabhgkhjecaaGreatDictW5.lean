/-
  The table's Delete, walked.
  Conditions: each contract's own.
-/
import Derived.Test.YtopkabhgkhjecaaGreatDictW4
namespace Go.PS
open Go Go.Proofs
set_option maxRecDepth 10000

/-- (*Dict).Delete -/
theorem delete_spec {G : World} {F : List HP} {b to ty : Nat} {d : D (Nat × Value)} (key : ByteArray) (ok : DOk d) (hk : key.size ≤ 9223372036854775806) (hn : d.n ≤ 1099511627776) (hpos : (d.step.find key).isSome → 0 < d.n) :
    Spec Tryz.prog G 105 [.pointer (some ⟨b, 0, none⟩), .string key] (dictL τK b d to ty ++ F) fun v L' => ∃ to' ty',
      L' = dictL τK b (d.delete key) to' ty' ++ F ∧ v = .bool (d.step.find key).isSome := by
  have ok' := ok.step
  have hn' : d.step.n ≤ 1099511627776 := by rw [D.step_n]; exact hn
  have hnn : d.step.n = d.n := D.step_n d
  refine spec_of_run Tryz.func105 rfl rfl ?_
  refine run_seq ?_
  refine run_region ?_
  refine k_val (ev_assign rfl) rfl ?_
  refine run_seq ?_
  refine run_seq ?_
  refine run_region ?_
  refine k_val (ev_move rfl) rfl ?_
  refine k_val (ev_eqNil rfl rfl (by kernel_rfl)) rfl ?_
  refine run_cond (t := false) rfl ?_
  refine run_skip ?_
  refine run_seq ?_
  refine run_region ?_
  refine k_val (ev_move rfl) rfl ?_
  refine k_call rfl rfl (by kernel_rfl) (step_spec ok) ?_
  rintro _ _ ⟨to, ty, rfl⟩
  unfold D.delete
  rw [← hnn] at hpos ⊢
  generalize d.step = d at *
  have hr0 := dict_reads (G := G) (F := F) (b := b) (to := to) (ty := ty) (d := d)
  have hR := dict_tabR (G := G) (F := F) (b := b) (to := to) (ty := ty) (d := d)
  refine run_seq ?_
  refine run_region ?_
  refine k_val (ev_move rfl) rfl ?_
  refine k_val (ev_move rfl) rfl ?_
  refine k_call rfl rfl (by kernel_rfl) (find_spec (d := d) to ty key hR.1 hR.2 hk (by have := ok'.lo; omega) (by have := ok'.ly; omega)) ?_
  rintro _ _ ⟨rfl, rfl⟩
  cases hf : (d.find key).isSome with
  | false =>
    have hf' := D.step_find_isSome hf
    rw [dict_lost hf']
    refine k_val (ev_assign rfl) rfl ?_
    refine run_seq ?_
    refine run_seq ?_
    refine run_region ?_
    refine k_val (ev_move rfl) rfl ?_
    refine k_val (ev_eqNil rfl rfl (by kernel_rfl)) rfl ?_
    refine run_cond (t := true) rfl ?_
    refine run_seq ?_
    refine run_region ?_
    refine k_val (ev_assign rfl) rfl ?_
    exact ret_spec Tryz.func105 rfl rfl ⟨to, ty, rfl, rfl⟩
  | true =>
    simp only [if_pos]
    obtain ⟨e, v, _, _, _, _, h1, _, _, _, _⟩ := dict_find hf hR
    have hnpos := hpos hf
    obtain ⟨Z, C, T, bb, off, nx, q1, q2, q3, p1, p2⟩ := dict_del τK (b := b) (to := to) (ty := ty) h1 F
    rw [q1]
    refine k_val (ev_assign rfl) rfl ?_
    refine run_seq ?_
    refine run_seq ?_
    refine run_region ?_
    refine k_val (ev_move rfl) rfl ?_
    refine k_val (ev_eqNil rfl rfl (by kernel_rfl)) rfl ?_
    refine run_cond (t := false) rfl ?_
    refine run_skip ?_
    refine run_seq ?_
    refine run_region ?_
    refine k_val (ev_move rfl) rfl ?_
    refine k_val (ev_move rfl) rfl ?_
    refine k_val (ev_nilCheck rfl) rfl ?_
    refine OpK.perm p1 ?_
    refine k_val (ev_loadAt rfl (by assumption) (by kernel_rfl)) rfl ?_
    refine k_val (ev_nilCheck rfl) rfl ?_
    refine k_val (ev_fieldAddr0 2 rfl (by kernel_rfl)) rfl ?_
    refine k_val (ev_load rfl (by kernel_rfl)) rfl ?_
    refine k_val (ev_nilCheck rfl) rfl ?_
    refine k_storeAt rfl rfl (by assumption) rfl (by kernel_rfl) ?_
    refine run_seq ?_
    refine run_region ?_
    refine k_val (ev_move rfl) rfl ?_
    refine k_val (ev_nilCheck rfl) rfl ?_
    refine k_val (ev_fieldAddr0 4 rfl (by kernel_rfl)) rfl ?_
    refine k_val (ev_load rfl (by kernel_rfl)) rfl ?_
    refine k_val (ev_subN (n := 1) rfl rfl rfl rfl (by omega) (by omega)) rfl ?_
    refine k_val (ev_nilCheck rfl) rfl ?_
    refine k_val (ev_fieldAddr0 4 rfl (by kernel_rfl)) rfl ?_
    refine k_store rfl rfl rfl rfl (by kernel_rfl) ?_
    refine run_seq ?_
    refine run_seq ?_
    refine Run.mem (L' := dictL τK b { d.change key (D.delChain key) with n := d.n - 1 } to ty ++ F) ?_ ?_
    · have e1 : (d.change key (D.delChain key)).old.length = d.old.length ∧ (d.change key (D.delChain key)).young.length = d.young.length := by
        unfold D.change D.atSlot
        split <;> simp
      have hlo := ok'.lo
      have hly := ok'.ly
      rw [← e1.1] at hlo
      rw [← e1.2] at hly
      generalize hg : ({ d.change key (D.delChain key) with n := d.n - 1 } : D (Nat × Value)) = g
      have e2 : (d.change key (D.delChain key)).old = g.old := by rw [← hg]
      have e3 : (d.change key (D.delChain key)).young = g.young := by rw [← hg]
      have e4 : g.n ≤ 1099511627776 := by rw [← hg]; simp only; omega
      rw [e2] at hlo
      rw [e3] at hly
      clear hg e1 e2 e3 p1 p2 q1 q2 q3
      have hr0 := dict_reads (G := G) (F := F) (b := b) (to := to) (ty := ty) (d := g)
      haveI hexp : Reads G (dictL τK b g to ty ++ F) b #[.int .u64 g.seed, .slice (tabA to g.old) g.old.length g.old.length, tabV ty g.young, .int .i64 g.at_, .int .i64 g.n] := by
        have := hr0; unfold dictCells at this; rwa [tabV_slice to] at this
      unfold D.shrunk
      refine run_quiet (by kernel_rfl) (by kernel_rfl) ?_
      refine q_val (ev_move rfl) rfl ?_
      by_cases hy : g.young = []
      · refine q_callE rfl rfl (by kernel_rfl) (moving_no hr0 hy) ?_
        by_cases h4 : 4 < g.old.length
        · by_cases h8 : 8 * g.n ≤ g.old.length
          · rw [if_pos ⟨hy, h4, h8⟩]
            refine q_val (ev_not rfl) rfl ?_
            refine q_val (ev_move rfl) rfl ?_
            refine q_guard rfl rfl rfl ?_
            refine q_val (ev_move rfl) rfl ?_
            refine q_guard rfl rfl rfl ?_
            refine q_val (ev_nilCheck rfl) rfl ?_
            refine q_guard rfl rfl rfl ?_
            refine q_val (ev_fieldAddr0 1 rfl (by kernel_rfl)) rfl ?_
            refine q_guard rfl rfl rfl ?_
            refine q_val (ev_load rfl (by kernel_rfl)) rfl ?_
            refine q_guard rfl rfl rfl ?_
            refine q_val (ev_lenSlice (e := 182) rfl (by kernel_rfl)) rfl ?_
            refine q_guard rfl rfl rfl ?_
            refine q_val (ev_bT (ev_gt rfl rfl) (by first | assumption | omega)) rfl ?_
            refine q_val (ev_pickT rfl rfl) rfl ?_
            refine q_val (ev_move rfl) rfl ?_
            refine q_guard rfl rfl rfl ?_
            refine q_val (ev_move rfl) rfl ?_
            refine q_guard rfl rfl rfl ?_
            refine q_val (ev_nilCheck rfl) rfl ?_
            refine q_guard rfl rfl rfl ?_
            refine q_val (ev_fieldAddr0 4 rfl (by kernel_rfl)) rfl ?_
            refine q_guard rfl rfl rfl ?_
            refine q_val (ev_load rfl (by kernel_rfl)) rfl ?_
            refine q_guard rfl rfl rfl ?_
            refine q_val (ev_mulN (m := 8) rfl rfl rfl rfl (by omega)) rfl ?_
            refine q_guard rfl rfl rfl ?_
            refine q_val (ev_move rfl) rfl ?_
            refine q_guard rfl rfl rfl ?_
            refine q_val (ev_nilCheck rfl) rfl ?_
            refine q_guard rfl rfl rfl ?_
            refine q_val (ev_fieldAddr0 1 rfl (by kernel_rfl)) rfl ?_
            refine q_guard rfl rfl rfl ?_
            refine q_val (ev_load rfl (by kernel_rfl)) rfl ?_
            refine q_guard rfl rfl rfl ?_
            refine q_val (ev_lenSlice (e := 182) rfl (by kernel_rfl)) rfl ?_
            refine q_guard rfl rfl rfl ?_
            refine q_val (ev_bT (ev_le rfl rfl) (by first | assumption | omega)) rfl ?_
            refine q_val (ev_pickT rfl rfl) rfl ?_
            refine q_nil ?_
            refine run_cond (t := true) rfl ?_
            refine run_seq ?_
            refine run_region ?_
            refine k_val (ev_assign rfl) rfl ?_
            refine run_seq ?_
            refine run_while (ι := Nat) (κ := Nat) (fun s => g.n - s) (fun s => 4 ≤ s ∧ s ≤ 4398046511104 ∧ ∃ f, D.least 64 g.n 4 = D.least f g.n s ∧ g.n ≤ s * 2 ^ f)
              (fun s => [(0, .pointer (some ⟨b, 0, none⟩)), (6, .int .i64 s)]) (fun _ => dictL τK b g to ty ++ F)
              (fun s => s = D.least 64 g.n 4 ∧ 4 ≤ s ∧ s ≤ 4398046511104) (fun s => [(0, .pointer (some ⟨b, 0, none⟩)), (6, .int .i64 s)]) (fun _ => dictL τK b g to ty ++ F)
              4 ⟨by omega, by omega, 64, rfl, by omega⟩ ⟨rfl, rfl, trivial⟩ rfl ?_ ?_
            · rintro s ⟨h1, h2, f, h3, h5⟩ next out
              by_cases hs : s < g.n
              · refine run_seq ?_
                refine run_seq ?_
                refine run_region ?_
                refine k_val (ev_move rfl) rfl ?_
                refine k_val (ev_move rfl) rfl ?_
                refine k_val (ev_nilCheck rfl) rfl ?_
                refine k_val (ev_fieldAddr0 4 rfl (by kernel_rfl)) rfl ?_
                refine k_val (ev_load rfl (by kernel_rfl)) rfl ?_
                refine k_val (ev_bT (ev_lt rfl rfl) (by first | assumption | omega)) rfl ?_
                refine run_cond (t := true) rfl ?_
                refine run_skip ?_
                refine run_block ?_
                refine run_region ?_
                refine k_val (ev_move rfl) rfl ?_
                refine k_val (ev_mulN (n := 2) rfl rfl rfl rfl (by omega)) rfl ?_
                refine k_val (ev_assign rfl) rfl ?_
                refine run_inBlock ?_
                cases f with
                | zero => omega
                | succ f =>
                  refine next (s * 2) _ (by omega) ⟨by omega, by omega, f, ?_, by rw [Nat.pow_succ] at h5; rw [Nat.mul_assoc, Nat.mul_comm 2]; exact h5⟩ ⟨rfl, rfl, trivial⟩
                  rw [h3, D.least, if_pos hs, Nat.mul_comm]
              · refine run_seq ?_
                refine run_seq ?_
                refine run_region ?_
                refine k_val (ev_move rfl) rfl ?_
                refine k_val (ev_move rfl) rfl ?_
                refine k_val (ev_nilCheck rfl) rfl ?_
                refine k_val (ev_fieldAddr0 4 rfl (by kernel_rfl)) rfl ?_
                refine k_val (ev_load rfl (by kernel_rfl)) rfl ?_
                refine k_val (ev_bF (ev_lt rfl rfl) (by first | assumption | omega)) rfl ?_
                refine run_cond (t := false) rfl ?_
                refine run_exit rfl (out s _ ⟨?_, h1, h2⟩ ⟨rfl, rfl, trivial⟩)
                rw [h3]
                cases f with
                | zero => rfl
                | succ f => rw [D.least, if_neg hs]
            · rintro s ⟨h1, h2, h3⟩
              refine run_region ?_
              refine k_val (ev_move rfl) rfl ?_
              refine k_val (ev_move rfl) rfl ?_
              refine k_makeSlice1 (e := 182) (B := 8) (.pointer none) rfl rfl rfl rfl ⟨by kernel_rfl, by kernel_rfl, by kernel_rfl, by kernel_rfl⟩ (by omega) (by omega) rfl ?_
              intro nb1
              refine k_val (ev_nilCheck rfl) rfl ?_
              refine k_val (ev_fieldAddr0 2 rfl (by kernel_rfl)) rfl ?_
              refine OpK.perm (L' := Blk nb1 (.cells (Array.replicate s (.pointer none)) 182 (0, 0)) :: Blk b (.cells #[.int .u64 g.seed, tabV to g.old, .slice none 0 0, .int .i64 g.at_, .int .i64 g.n] 165 (0, 0)) :: (tabL τK to g.old ++ F)) ?_ ?_
              · unfold dictL dictCells
                rw [hy, tabL_nil, tabV_nil, List.append_nil, List.cons_append]
              refine k_store rfl rfl rfl rfl (by kernel_rfl) ?_
              refine run_seq ?_
              refine run_region ?_
              refine k_val (ev_assign rfl) rfl ?_
              refine Run.perm (L' := dictL τK b { g with young := List.replicate s [] } to nb1 ++ F) ?_ ?_
              · refine ret_spec Tryz.func105 rfl rfl ⟨to, nb1, ?_, rfl⟩
                rw [h1]
              · refine (List.Perm.swap _ _ _).trans ?_
                unfold dictL dictCells
                rw [tabL_replicate (by omega), tabV_replicate (by omega), List.cons_append, List.append_assoc]
                exact .cons _ List.perm_middle.symm
          · rw [if_neg (by simp [h8])]
            refine q_val (ev_not rfl) rfl ?_
            refine q_val (ev_move rfl) rfl ?_
            refine q_guard rfl rfl rfl ?_
            refine q_val (ev_move rfl) rfl ?_
            refine q_guard rfl rfl rfl ?_
            refine q_val (ev_nilCheck rfl) rfl ?_
            refine q_guard rfl rfl rfl ?_
            refine q_val (ev_fieldAddr0 1 rfl (by kernel_rfl)) rfl ?_
            refine q_guard rfl rfl rfl ?_
            refine q_val (ev_load rfl (by kernel_rfl)) rfl ?_
            refine q_guard rfl rfl rfl ?_
            refine q_val (ev_lenSlice (e := 182) rfl (by kernel_rfl)) rfl ?_
            refine q_guard rfl rfl rfl ?_
            refine q_val (ev_bT (ev_gt rfl rfl) (by first | assumption | omega)) rfl ?_
            refine q_val (ev_pickT rfl rfl) rfl ?_
            refine q_val (ev_move rfl) rfl ?_
            refine q_guard rfl rfl rfl ?_
            refine q_val (ev_move rfl) rfl ?_
            refine q_guard rfl rfl rfl ?_
            refine q_val (ev_nilCheck rfl) rfl ?_
            refine q_guard rfl rfl rfl ?_
            refine q_val (ev_fieldAddr0 4 rfl (by kernel_rfl)) rfl ?_
            refine q_guard rfl rfl rfl ?_
            refine q_val (ev_load rfl (by kernel_rfl)) rfl ?_
            refine q_guard rfl rfl rfl ?_
            refine q_val (ev_mulN (m := 8) rfl rfl rfl rfl (by omega)) rfl ?_
            refine q_guard rfl rfl rfl ?_
            refine q_val (ev_move rfl) rfl ?_
            refine q_guard rfl rfl rfl ?_
            refine q_val (ev_nilCheck rfl) rfl ?_
            refine q_guard rfl rfl rfl ?_
            refine q_val (ev_fieldAddr0 1 rfl (by kernel_rfl)) rfl ?_
            refine q_guard rfl rfl rfl ?_
            refine q_val (ev_load rfl (by kernel_rfl)) rfl ?_
            refine q_guard rfl rfl rfl ?_
            refine q_val (ev_lenSlice (e := 182) rfl (by kernel_rfl)) rfl ?_
            refine q_guard rfl rfl rfl ?_
            refine q_val (ev_bF (ev_le rfl rfl) (by first | assumption | omega)) rfl ?_
            refine q_val (ev_pickT rfl rfl) rfl ?_
            refine q_nil ?_
            refine run_cond (t := false) rfl ?_
            refine run_skip ?_
            refine run_seq ?_
            refine run_region ?_
            refine k_val (ev_assign rfl) rfl ?_
            exact ret_spec Tryz.func105 rfl rfl ⟨to, ty, rfl, rfl⟩
        · rw [if_neg (by simp [h4])]
          refine q_val (ev_not rfl) rfl ?_
          refine q_val (ev_move rfl) rfl ?_
          refine q_guard rfl rfl rfl ?_
          refine q_val (ev_move rfl) rfl ?_
          refine q_guard rfl rfl rfl ?_
          refine q_val (ev_nilCheck rfl) rfl ?_
          refine q_guard rfl rfl rfl ?_
          refine q_val (ev_fieldAddr0 1 rfl (by kernel_rfl)) rfl ?_
          refine q_guard rfl rfl rfl ?_
          refine q_val (ev_load rfl (by kernel_rfl)) rfl ?_
          refine q_guard rfl rfl rfl ?_
          refine q_val (ev_lenSlice (e := 182) rfl (by kernel_rfl)) rfl ?_
          refine q_guard rfl rfl rfl ?_
          refine q_val (ev_bF (ev_gt rfl rfl) (by first | assumption | omega)) rfl ?_
          refine q_val (ev_pickT rfl rfl) rfl ?_
          refine q_val (ev_move rfl) rfl ?_
          refine q_skip rfl rfl rfl rfl ?_
          refine q_skip rfl rfl rfl rfl ?_
          refine q_skip rfl rfl rfl rfl ?_
          refine q_skip rfl rfl rfl rfl ?_
          refine q_skip rfl rfl rfl rfl ?_
          refine q_skip rfl rfl rfl rfl ?_
          refine q_skip rfl rfl rfl rfl ?_
          refine q_skip rfl rfl rfl rfl ?_
          refine q_skip rfl rfl rfl rfl ?_
          refine q_skip rfl rfl rfl rfl ?_
          refine q_skip rfl rfl rfl rfl ?_
          refine q_val (ev_pickF rfl rfl) rfl ?_
          refine q_nil ?_
          refine run_cond (t := false) rfl ?_
          refine run_skip ?_
          refine run_seq ?_
          refine run_region ?_
          refine k_val (ev_assign rfl) rfl ?_
          exact ret_spec Tryz.func105 rfl rfl ⟨to, ty, rfl, rfl⟩
      · rw [if_neg (by simp [hy])]
        refine q_callE rfl rfl (by kernel_rfl) (moving_yes hr0 hy) ?_
        refine q_val (ev_not rfl) rfl ?_
        refine q_val (ev_move rfl) rfl ?_
        refine q_skip rfl rfl rfl rfl ?_
        refine q_skip rfl rfl rfl rfl ?_
        refine q_skip rfl rfl rfl rfl ?_
        refine q_skip rfl rfl rfl rfl ?_
        refine q_skip rfl rfl rfl rfl ?_
        refine q_skip rfl rfl rfl rfl ?_
        refine q_val (ev_pickF rfl rfl) rfl ?_
        refine q_val (ev_move rfl) rfl ?_
        refine q_skip rfl rfl rfl rfl ?_
        refine q_skip rfl rfl rfl rfl ?_
        refine q_skip rfl rfl rfl rfl ?_
        refine q_skip rfl rfl rfl rfl ?_
        refine q_skip rfl rfl rfl rfl ?_
        refine q_skip rfl rfl rfl rfl ?_
        refine q_skip rfl rfl rfl rfl ?_
        refine q_skip rfl rfl rfl rfl ?_
        refine q_skip rfl rfl rfl rfl ?_
        refine q_skip rfl rfl rfl rfl ?_
        refine q_skip rfl rfl rfl rfl ?_
        refine q_val (ev_pickF rfl rfl) rfl ?_
        refine q_nil ?_
        refine run_cond (t := false) rfl ?_
        refine run_skip ?_
        refine run_seq ?_
        refine run_region ?_
        refine k_val (ev_assign rfl) rfl ?_
        exact ret_spec Tryz.func105 rfl rfl ⟨to, ty, rfl, rfl⟩
    · intro w hw
      exact hw.swap.tail.perm (p2 (d.n - 1)).symm
end Go.PS
