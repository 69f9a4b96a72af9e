/-
  The table's Sample, walked.
  Conditions: each contract's own.
-/
import Derived.Test.YtopkabhgkhjecaaGreatDictW5
namespace Go.PS
open Go Go.Proofs
set_option maxRecDepth 10000

theorem D.probe_some {α : Type} {rows : List (List (ByteArray × α))} : ∀ {k i : Nat} {c : List (ByteArray × α)}, D.probe rows k i = some c → c ≠ []
  | 0, _, _, h => by cases h
  | k + 1, i, c, h => by
    unfold D.probe at h
    split at h
    · injection h with h; subst h; simp
    · exact D.probe_some h

theorem D.probe_next {α : Type} {rows : List (List (ByteArray × α))} {k i : Nat} (h : rows[i % rows.length]? = some []) : D.probe rows (k + 1) i = D.probe rows k (i + 1) := by
  rw [D.probe, h]
theorem D.probe_here {α : Type} {rows : List (List (ByteArray × α))} {k i : Nat} {x : ByteArray × α} {c : List (ByteArray × α)} (h : rows[i % rows.length]? = some (x :: c)) : D.probe rows (k + 1) i = some (x :: c) := by
  rw [D.probe, h]
theorem D.probe_none {α : Type} {rows : List (List (ByteArray × α))} : ∀ {k i : Nat}, 0 < rows.length → D.probe rows k i = none → ∀ j, j < k → rows[(i + j) % rows.length]? = some []
  | 0, _, _, _, j, hj => by omega
  | k + 1, i, hp, h, j, hj => by
    have hlt : i % rows.length < rows.length := Nat.mod_lt _ hp
    have hg := List.getElem?_eq_getElem hlt
    cases hc : rows[i % rows.length] with
    | cons x c => rw [hc] at hg; rw [D.probe_here hg] at h; cases h
    | nil =>
      rw [hc] at hg
      rw [D.probe_next hg] at h
      cases j with
      | zero => exact hg
      | succ j => have := D.probe_none hp h j (by omega); rwa [show i + 1 + j = i + (j + 1) by omega] at this
theorem D.probe_found {α : Type} {rows : List (List (ByteArray × α))} {i : Nat} (hp : 0 < rows.length) (h : ∃ c ∈ rows, c ≠ []) : D.probe rows rows.length i ≠ none := by
  intro hn
  obtain ⟨c, hc, hne⟩ := h
  obtain ⟨a, ha, rfl⟩ := List.mem_iff_getElem.1 hc
  have := D.probe_none hp hn ((a + (rows.length - i % rows.length)) % rows.length) (Nat.mod_lt _ hp)
  have e : (i + (a + (rows.length - i % rows.length)) % rows.length) % rows.length = a := by
    have hlt : i % rows.length < rows.length := Nat.mod_lt _ hp
    rw [Nat.add_mod_mod]
    have : i + (a + (rows.length - i % rows.length)) = a + rows.length * (i / rows.length + 1) := by
      have := Nat.div_add_mod i rows.length
      rw [Nat.mul_add, Nat.mul_one]; omega
    rw [this, Nat.add_mul_mod_self_left, Nat.mod_eq_of_lt ha]
  rw [e, List.getElem?_eq_getElem ha] at this
  injection this with this
  exact hne this
theorem chain_at {G : World} {L : List HP} {c : List Ent} (h : ChainR G L c) {j : Nat} (hj : j < c.length) : ∃ k e v, c[j]? = some (k, e, v) ∧ headP none (c.drop j) = some ⟨e, 0, none⟩ ∧ Reads G L e #[.string k, v, .pointer (headP none (c.drop (j + 1)))] := by
  obtain ⟨⟨k, e, v⟩, he⟩ : ∃ x, c[j]? = some x := ⟨c[j], by simp⟩
  have hd := chainR_drop j h
  have hget : c[j] = (k, e, v) := (List.getElem?_eq_some_iff.1 he).2
  rw [List.drop_eq_getElem_cons hj, hget] at hd
  exact ⟨k, e, v, he, by rw [List.drop_eq_getElem_cons hj, hget]; rfl, hd.1⟩

/-- (*Dict).Sample -/
theorem sample_spec {G : World} {F : List HP} {b to ty : Nat} {d : D (Nat × Value)} (r : Nat) (hr : r ≤ 18446744073709551615) (ok : DOk d) (hn : d.n ≤ 1099511627776) (hne : d.n ≠ 0 → ∃ c ∈ d.rows, c ≠ []) (hlong : ∀ c ∈ d.rows, c.length ≤ 1099511627776) :
    Spec Tryz.prog G 99 [.pointer (some ⟨b, 0, none⟩), .int .u64 r] (dictL τK b d to ty ++ F) fun v L' => L' = dictL τK b d to ty ++ F ∧
      v = (match d.sample r with | some k => .tuple #[.string k, .bool true] | none => .tuple #[.string ByteArray.empty, .bool false]) := by
  have hr0 := dict_reads (G := G) (F := F) (b := b) (to := to) (ty := ty) (d := d)
  have hR := dict_tabR (G := G) (F := F) (b := b) (to := to) (ty := ty) (d := d)
  haveI hexp : Reads G (dictL τK b d to ty ++ F) b #[.int .u64 d.seed, .slice (tabA to d.old) d.old.length d.old.length, .slice (tabA ty d.young) d.young.length d.young.length, .int .i64 d.at_, .int .i64 d.n] := by
    have := hr0; unfold dictCells at this; rwa [tabV_slice to, tabV_slice ty] at this
  have h1 := ok.at_le
  have h2 := ok.lo
  have h3 := ok.ly
  refine spec_of_run Tryz.func99 rfl rfl ?_
  by_cases h0 : d.n = 0
  · have : d.sample r = none := by unfold D.sample; rw [if_pos h0]
    rw [this]
    refine run_seq ?_
    refine run_region ?_
    refine k_val (ev_assign rfl) rfl ?_
    refine k_val (ev_assign rfl) rfl ?_
    refine run_seq ?_
    refine run_seq ?_
    refine run_region ?_
    refine k_val (ev_move rfl) rfl ?_
    refine k_val (ev_eqNil rfl rfl (by kernel_rfl)) rfl ?_
    refine k_val (ev_move rfl) rfl ?_
    refine k_guard rfl rfl rfl ?_
    refine k_val (ev_move rfl) rfl ?_
    refine k_guard rfl rfl rfl ?_
    refine k_val (ev_nilCheck rfl) rfl ?_
    refine k_guard rfl rfl rfl ?_
    refine k_val (ev_fieldAddr0 4 rfl (by kernel_rfl)) rfl ?_
    refine k_guard rfl rfl rfl ?_
    refine k_val (ev_load rfl (by kernel_rfl)) rfl ?_
    refine k_guard rfl rfl rfl ?_
    refine k_val (ev_bT (ev_eqI rfl rfl) (by first | assumption | omega)) rfl ?_
    refine k_val (ev_pickF rfl rfl) rfl ?_
    refine run_cond (t := true) rfl ?_
    refine run_seq ?_
    refine run_region ?_
    refine k_val (ev_assign rfl) rfl ?_
    refine k_val (ev_assign rfl) rfl ?_
    exact ret_spec Tryz.func99 rfl rfl ⟨rfl, rfl⟩
  · have hne0 := hne h0
    obtain ⟨c0, hc0, hc0'⟩ := hne h0
    have hlen : d.rows.length = d.old.length - d.at_ + d.young.length := by unfold D.rows; simp
    have hpos : 0 < d.rows.length := List.length_pos_iff.2 (by intro h; rw [h] at hc0; cases hc0)
    refine run_seq ?_
    refine run_region ?_
    refine k_val (ev_assign rfl) rfl ?_
    refine k_val (ev_assign rfl) rfl ?_
    refine run_seq ?_
    refine run_seq ?_
    refine run_region ?_
    refine k_val (ev_move rfl) rfl ?_
    refine k_val (ev_eqNil rfl rfl (by kernel_rfl)) rfl ?_
    refine k_val (ev_move rfl) rfl ?_
    refine k_guard rfl rfl rfl ?_
    refine k_val (ev_move rfl) rfl ?_
    refine k_guard rfl rfl rfl ?_
    refine k_val (ev_nilCheck rfl) rfl ?_
    refine k_guard rfl rfl rfl ?_
    refine k_val (ev_fieldAddr0 4 rfl (by kernel_rfl)) rfl ?_
    refine k_guard rfl rfl rfl ?_
    refine k_val (ev_load rfl (by kernel_rfl)) rfl ?_
    refine k_guard rfl rfl rfl ?_
    refine k_val (ev_bF (ev_eqI rfl rfl) (by first | assumption | omega)) rfl ?_
    refine k_val (ev_pickF rfl rfl) rfl ?_
    refine run_cond (t := false) rfl ?_
    refine run_skip ?_
    refine run_seq ?_
    refine run_quiet (by kernel_rfl) (by kernel_rfl) ?_
    refine q_val (ev_move rfl) rfl ?_
    refine q_val (ev_nilCheck rfl) rfl ?_
    refine q_val (ev_fieldAddr0 1 rfl (by kernel_rfl)) rfl ?_
    refine q_val (ev_load rfl (by kernel_rfl)) rfl ?_
    refine q_val (ev_move rfl) rfl ?_
    refine q_val (ev_nilCheck rfl) rfl ?_
    refine q_val (ev_fieldAddr0 3 rfl (by kernel_rfl)) rfl ?_
    refine q_val (ev_load rfl (by kernel_rfl)) rfl ?_
    refine q_val (ev_slice (e := 182) 1 rfl ⟨_, rfl⟩ rfl (by omega) (by omega) (by kernel_rfl) (by kernel_rfl)) rfl ?_
    refine q_val (ev_assign rfl) rfl ?_
    refine q_nil ?_
    refine run_seq ?_
    refine run_region ?_
    refine k_val (ev_move rfl) rfl ?_
    refine k_val (ev_lenSlice (e := 182) rfl (by kernel_rfl)) rfl ?_
    refine k_val (ev_move rfl) rfl ?_
    refine k_val (ev_nilCheck rfl) rfl ?_
    refine k_val (ev_fieldAddr0 2 rfl (by kernel_rfl)) rfl ?_
    refine k_val (ev_load rfl (by kernel_rfl)) rfl ?_
    refine k_val (ev_lenSlice (e := 182) rfl (by kernel_rfl)) rfl ?_
    refine k_val (ev_addN rfl rfl rfl rfl (by omega)) rfl ?_
    refine k_val (ev_convU64 rfl (by kernel_rfl) (by kernel_rfl) (by omega)) rfl ?_
    refine k_val (ev_assign rfl) rfl ?_
    refine run_seq ?_
    refine run_region ?_
    refine k_val (ev_move rfl) rfl ?_
    refine k_val (ev_move rfl) rfl ?_
    refine k_val (ev_remN rfl rfl rfl rfl (by omega)) rfl ?_
    refine k_val (ev_assign rfl) rfl ?_
    simp only [← hlen]
    generalize hq : (if d.old.length = d.at_ then tabA to d.old else Option.map (fun x => x.add (d.at_ * 1)) (tabA to d.old)) = q
    have hfnd := D.probe_found (i := r % d.rows.length) hpos hne0
    have hsmp : d.sample r = (D.probe d.rows d.rows.length (r % d.rows.length)).bind fun c => (c[r / d.rows.length % c.length]?).map (·.1) := by unfold D.sample; rw [if_neg h0]
    have hT : d.rows.length ≤ 2305843009213693952 := by omega
    rw [hsmp]
    have hrow : ∀ i, i < d.rows.length → ∃ c, d.rows[i]? = some c ∧ ChainR G (dictL τK b d to ty ++ F) c := by
      intro i hi
      obtain ⟨c, hc⟩ : ∃ c, d.rows[i]? = some c := ⟨d.rows[i], List.getElem?_eq_getElem hi⟩
      refine ⟨c, hc, ?_⟩
      have hm := List.mem_of_getElem? hc
      unfold D.rows at hm
      rcases List.mem_append.1 hm with hm | hm
      · rcases hR.1 with h | h
        · rw [h] at hm; simp at hm
        · exact h.2 _ (List.mem_of_mem_drop hm)
      · rcases hR.2 with h | h
        · rw [h] at hm; cases hm
        · exact h.2 _ hm
    generalize hTe : d.rows.length = T at *
    refine run_block (run_loopE (fun m => T - m) (fun m => m ≤ T ∧ D.probe d.rows T (r % T) = D.probe d.rows (T - m) (r % T + m))
      (fun m => [(0, .pointer (some ⟨b, 0, none⟩)), (1, .int .u64 r), (6, .slice q (d.old.length - d.at_) (d.old.length - d.at_)), (7, .int .u64 T), (8, .int .u64 ((r % T + m) % T : Nat))])
      (fun _ => dictL τK b d to ty ++ F) 0 ⟨Nat.zero_le _, rfl⟩ ⟨rfl, rfl, rfl, rfl, by simp [look], trivial⟩ rfl ?_)
    rintro m ⟨hm, hp⟩ next
    have hmT : m < T := by
      rcases Nat.lt_or_ge m T with h | h
      · exact h
      · rw [show T - m = 0 by omega] at hp; exact absurd hp hfnd
    have hi : (r % T + m) % T < T := Nat.mod_lt _ hpos
    generalize hie : (r % T + m) % T = i at *
    obtain ⟨c, hc, hch⟩ := hrow i hi
    refine run_seq ?_
    refine run_block ?_
    refine run_seq ?_
    refine run_region ?_
    refine k_val (ev_assign rfl) rfl ?_
    refine run_seq ?_
    refine run_seq ?_
    refine run_region ?_
    refine k_val (ev_move rfl) rfl ?_
    refine k_val (ev_move rfl) rfl ?_
    refine k_val (ev_lenSlice (e := 182) rfl (by kernel_rfl)) rfl ?_
    refine k_val (ev_convU64 rfl (by kernel_rfl) (by kernel_rfl) (by omega)) rfl ?_
    refine k_val (ev_lt rfl rfl) rfl ?_
    refine run_cut (κ := Unit) (fun _ => True) (fun _ => [(0, .pointer (some ⟨b, 0, none⟩)), (1, .int .u64 r), (6, .slice q (d.old.length - d.at_) (d.old.length - d.at_)), (7, .int .u64 T), (8, .int .u64 i), (9, .pointer (headP none c))])
      (fun _ => dictL τK b d to ty ++ F) ?_ ?_
    · rintro _ _
      cases c with
      | nil =>
        rw [headP_nil]
        refine run_seq ?_
        refine run_seq ?_
        refine run_region ?_
        refine k_val (ev_move rfl) rfl ?_
        refine k_val (ev_eqNil rfl rfl (by kernel_rfl)) rfl ?_
        refine run_cond (t := true) rfl ?_
        refine run_exit rfl ?_
        refine run_region ?_
        refine k_val (ev_move rfl) rfl ?_
        refine k_val (ev_addU (n := 1) rfl rfl rfl rfl (by omega)) rfl ?_
        refine k_val (ev_move rfl) rfl ?_
        refine k_val (ev_remN rfl rfl rfl rfl (by omega)) rfl ?_
        refine k_val (ev_assign rfl) rfl ?_
        refine next (m + 1) _ (by omega) ⟨by omega, ?_⟩ ⟨rfl, rfl, rfl, rfl, ?_, trivial⟩
        · rw [hp, show T - m = T - (m + 1) + 1 by omega, D.probe_next (by rw [hTe, hie]; exact hc)]; rfl
        · simp only [look]
          rw [← hie, Nat.mod_add_mod]; rfl
      | cons x c =>
        obtain ⟨xk, xe, xv⟩ := x
        have hpr : D.probe d.rows T (r % T) = some ((xk, xe, xv) :: c) := by
          rw [hp, show T - m = T - (m + 1) + 1 by omega, D.probe_here (by rw [hTe, hie]; exact hc)]
        have hll := hlong _ (List.mem_of_getElem? hc)
        rw [hpr]
        generalize hcc : (xk, xe, xv) :: c = l at *
        have hl0 : 0 < l.length := by rw [← hcc]; simp
        have hh0 : headP none l = some ⟨xe, 0, none⟩ := by rw [← hcc]; rfl
        rw [hh0]
        refine run_seq ?_
        refine run_seq ?_
        refine run_region ?_
        refine k_val (ev_move rfl) rfl ?_
        refine k_val (ev_eqNil rfl rfl (by kernel_rfl)) rfl ?_
        refine run_cond (t := false) rfl ?_
        refine run_skip ?_
        refine run_seq ?_
        refine run_region ?_
        refine k_val (ev_assign rfl) rfl ?_
        refine run_seq ?_
        refine run_seq ?_
        refine run_region ?_
        refine k_val (ev_move rfl) rfl ?_
        refine k_val (ev_assign rfl) rfl ?_
        rw [← hh0]
        refine run_while (ι := Nat) (κ := Unit) (fun j => l.length - j) (fun j => j ≤ l.length)
          (fun j => [(0, .pointer (some ⟨b, 0, none⟩)), (1, .int .u64 r), (7, .int .u64 T), (9, .pointer (headP none l)), (10, .int .u64 j), (11, .pointer (headP none (l.drop j)))]) (fun _ => dictL τK b d to ty ++ F)
          (fun _ => True) (fun _ => [(0, .pointer (some ⟨b, 0, none⟩)), (1, .int .u64 r), (7, .int .u64 T), (9, .pointer (headP none l)), (10, .int .u64 l.length)]) (fun _ => dictL τK b d to ty ++ F)
          0 (Nat.zero_le _) ⟨rfl, rfl, rfl, rfl, rfl, rfl, trivial⟩ rfl ?_ ?_
        · intro j hj next out
          by_cases hjl : j < l.length
          · obtain ⟨k, e, v, he, hh, hre⟩ := chain_at hch hjl
            rw [hh]
            refine run_seq ?_
            refine run_seq ?_
            refine run_region ?_
            refine k_val (ev_move rfl) rfl ?_
            refine k_val (ev_neNil rfl rfl (by kernel_rfl)) rfl ?_
            refine run_cond (t := true) rfl ?_
            refine run_skip ?_
            refine run_seq ?_
            refine run_block ?_
            refine run_region ?_
            refine k_val (ev_move rfl) rfl ?_
            refine k_val (ev_addU (n := 1) rfl rfl rfl rfl (by omega)) rfl ?_
            refine k_val (ev_assign rfl) rfl ?_
            refine run_inBlock ?_
            refine run_region ?_
            refine k_val (ev_move rfl) rfl ?_
            refine k_val (ev_nilCheck rfl) rfl ?_
            refine k_val (ev_fieldAddr0 2 rfl (by kernel_rfl)) rfl ?_
            refine k_val (ev_load rfl (by kernel_rfl)) rfl ?_
            refine k_val (ev_assign rfl) rfl ?_
            exact next (j + 1) _ (by omega) (by omega) ⟨rfl, rfl, rfl, rfl, rfl, rfl, trivial⟩
          · have hdrop : l.drop j = [] := List.drop_of_length_le (by omega)
            rw [hdrop, headP_nil]
            have hje : j = l.length := by omega
            refine run_seq ?_
            refine run_seq ?_
            refine run_region ?_
            refine k_val (ev_move rfl) rfl ?_
            refine k_val (ev_neNil rfl rfl (by kernel_rfl)) rfl ?_
            refine run_cond (t := false) rfl ?_
            subst hje
            exact run_exit rfl (out () _ trivial ⟨rfl, rfl, rfl, rfl, rfl, trivial⟩)
        · rintro _ _
          have hk : r / T % l.length < l.length := Nat.mod_lt _ hl0
          refine run_seq ?_
          refine run_seq ?_
          refine run_region ?_
          refine k_val (ev_move rfl) rfl ?_
          refine k_val (ev_move rfl) rfl ?_
          refine k_val (ev_quoU rfl rfl rfl rfl (by omega) (by omega)) rfl ?_
          refine k_val (ev_move rfl) rfl ?_
          refine k_val (ev_remN rfl rfl rfl rfl (by omega)) rfl ?_
          refine k_val (ev_assign rfl) rfl ?_
          generalize hke : r / T % l.length = k0 at *
          refine run_while (ι := Nat) (κ := Unit) (fun j => k0 - j) (fun j => j ≤ k0)
            (fun j => [(9, .pointer (headP none (l.drop j))), (12, .int .u64 (k0 - j : Nat))]) (fun _ => dictL τK b d to ty ++ F)
            (fun _ => True) (fun _ => [(9, .pointer (headP none (l.drop k0)))]) (fun _ => dictL τK b d to ty ++ F)
            0 (Nat.zero_le _) ⟨rfl, rfl, trivial⟩ rfl ?_ ?_
          · intro j hj next out
            obtain ⟨k, e, v, he, hh, hre⟩ := chain_at hch (show j < l.length by omega)
            by_cases hjl : j < k0
            · rw [hh]
              refine run_seq ?_
              refine run_seq ?_
              refine run_region ?_
              refine k_val (ev_move rfl) rfl ?_
              refine k_val (ev_bT (ev_gt rfl rfl) (by first | assumption | omega)) rfl ?_
              refine run_cond (t := true) rfl ?_
              refine run_skip ?_
              refine run_seq ?_
              refine run_block ?_
              refine run_region ?_
              refine k_val (ev_move rfl) rfl ?_
              refine k_val (ev_nilCheck rfl) rfl ?_
              refine k_val (ev_fieldAddr0 2 rfl (by kernel_rfl)) rfl ?_
              refine k_val (ev_load rfl (by kernel_rfl)) rfl ?_
              refine k_val (ev_assign rfl) rfl ?_
              refine run_inBlock ?_
              refine run_region ?_
              refine k_val (ev_move rfl) rfl ?_
              refine k_val (ev_subU (n := 1) rfl rfl rfl rfl (by omega) (by omega)) rfl ?_
              refine k_val (ev_assign rfl) rfl ?_
              exact next (j + 1) _ (by omega) (by omega) ⟨rfl, rfl, trivial⟩
            · have hje : j = k0 := by omega
              refine run_seq ?_
              refine run_seq ?_
              refine run_region ?_
              refine k_val (ev_move rfl) rfl ?_
              refine k_val (ev_bF (ev_gt rfl rfl) (by first | assumption | omega)) rfl ?_
              refine run_cond (t := false) rfl ?_
              subst hje
              exact run_exit rfl (out () _ trivial ⟨rfl, trivial⟩)
          · rintro _ _
            obtain ⟨k, e, v, he, hh, hre⟩ := chain_at hch hk
            rw [hh]
            refine run_seq ?_
            refine run_region ?_
            refine k_val (ev_move rfl) rfl ?_
            refine k_val (ev_nilCheck rfl) rfl ?_
            refine k_val (ev_fieldAddr0 0 rfl (by kernel_rfl)) rfl ?_
            refine k_val (ev_load rfl (by kernel_rfl)) rfl ?_
            refine k_val (ev_assign rfl) rfl ?_
            refine k_val (ev_assign rfl) rfl ?_
            refine ret_spec Tryz.func99 rfl rfl ⟨rfl, ?_⟩
            rw [Option.bind_some, hke, he]; rfl
    · intro join
      by_cases hlt : i < d.old.length - d.at_
      · have ho : d.old ≠ [] := by intro h; rw [h] at hlt; simp at hlt
        have hq' : q = some ⟨to, d.at_, none⟩ := by rw [← hq, if_neg (by omega)]; simp [tabA, ho, add_off]
        have hcell : (tabCells d.old)[d.at_ + i * 1]? = some (.pointer (headP none c)) := by
          rw [Nat.mul_one]
          refine tabCells_get ?_
          rw [← hc]; unfold D.rows
          rw [List.getElem?_append_left (by simpa using hlt), List.getElem?_drop]
        haveI hRo : Reads G (dictL τK b d to ty ++ F) to (tabCells d.old) := by
          rcases hR.1 with h | h
          · exact absurd h ho
          · exact h.1
        rw [hq']
        refine run_ifT rfl (by first | assumption | omega) ?_
        refine run_region ?_
        refine k_val (ev_move rfl) rfl ?_
        refine k_val (ev_move rfl) rfl ?_
        refine k_val (ev_indexAddrO (e := 182) 1 rfl rfl (by first | assumption | omega) (by kernel_rfl) (by kernel_rfl)) rfl ?_
        refine k_val (ev_loadAt rfl (by assumption) (by kernel_rfl)) rfl ?_
        refine k_val (ev_assign rfl) rfl ?_
        rw [← hq']
        exact join () _ trivial ⟨rfl, rfl, rfl, rfl, rfl, rfl, trivial⟩
      · have hy : d.young ≠ [] := by intro h; rw [h] at hlen; simp at hlen; omega
        have hcell : (tabCells d.young)[i - (d.old.length - d.at_)]? = some (.pointer (headP none c)) := by
          refine tabCells_get ?_
          rw [← hc]; unfold D.rows
          rw [List.getElem?_append_right (by simpa using hlt)]; simp
        haveI hRy : Reads G (dictL τK b d to ty ++ F) ty (tabCells d.young) := by
          rcases hR.2 with h | h
          · exact absurd h hy
          · exact h.1
        rw [show tabA ty d.young = some ⟨ty, 0, none⟩ by simp [tabA, hy]] at hexp
        refine run_ifF rfl (by first | assumption | omega) ?_
        refine run_region ?_
        refine k_val (ev_move rfl) rfl ?_
        refine k_val (ev_nilCheck rfl) rfl ?_
        refine k_val (ev_fieldAddr0 2 rfl (by kernel_rfl)) rfl ?_
        refine k_val (ev_load rfl (by kernel_rfl)) rfl ?_
        refine k_val (ev_move rfl) rfl ?_
        refine k_val (ev_move rfl) rfl ?_
        refine k_val (ev_lenSlice (e := 182) rfl (by kernel_rfl)) rfl ?_
        refine k_val (ev_convU64 rfl (by kernel_rfl) (by kernel_rfl) (by omega)) rfl ?_
        refine k_val (ev_subU rfl rfl rfl rfl (by omega) (by omega)) rfl ?_
        refine k_val (ev_indexAddr1 (e := 182) rfl rfl (by first | assumption | omega) (by kernel_rfl) (by kernel_rfl)) rfl ?_
        refine k_val (ev_loadAt rfl (by assumption) (by kernel_rfl)) rfl ?_
        refine k_val (ev_assign rfl) rfl ?_
        exact join () _ trivial ⟨rfl, rfl, rfl, rfl, rfl, rfl, trivial⟩
end Go.PS
