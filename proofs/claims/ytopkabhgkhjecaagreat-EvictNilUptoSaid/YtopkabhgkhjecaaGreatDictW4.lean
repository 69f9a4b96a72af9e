/-
  The table's Set, walked.
  Conditions: each contract's own.
-/
import Derived.Test.YtopkabhgkhjecaaGreatDictW3
import Derived.Test.YtopkabhgkhjecaaGreatDictL2
namespace Go.PS
open Go Go.Proofs
set_option maxRecDepth 10000

theorem D.step_find_isSome {α : Type} {d : D α} {key : ByteArray} : (d.find key).isSome = false → d.find key = none := by
  intro h; cases hf : d.find key with
  | none => rfl
  | some x => rw [hf] at h; cases h

theorem replicate_tabCells (n : Nat) : Array.replicate n (Value.pointer none) = tabCells (List.replicate n []) := by
  unfold tabCells; simp [headP]
theorem rowL_replicate (τ : TyD) (n : Nat) : rowL τ (List.replicate n []) = [] := by
  unfold rowL
  induction n with
  | zero => rfl
  | succ n ih => rw [List.replicate_succ, List.flatMap_cons, ih]; rfl
theorem tabL_replicate {tb n : Nat} (h : n ≠ 0) : tabL τK tb (List.replicate n []) = [Blk tb (.cells (Array.replicate n (Value.pointer none)) 182 (0, 0))] := by
  rw [tabL_cons τK (by simp [h]), rowL_replicate, replicate_tabCells]
theorem tabV_replicate {tb n : Nat} (h : n ≠ 0) : tabV tb (List.replicate n ([] : List Ent)) = .slice (some ⟨tb, 0, none⟩) n n := by
  rw [tabV_cons (by simp [h])]; simp

theorem moving_no {G : World} {L : List HP} {b : Nat} {d : D (Nat × Value)} {to ty : Nat} (h : Reads G L b (dictCells d to ty)) (hy : d.young = []) :
    Spec Tryz.prog G 149 [.pointer (some ⟨b, 0, none⟩)] L fun v L' => v = .bool false ∧ L' = L := (moving_spec (d := d) to ty).mono (by rintro _ _ ⟨rfl, rfl⟩; simp [hy])
theorem moving_yes {G : World} {L : List HP} {b : Nat} {d : D (Nat × Value)} {to ty : Nat} (h : Reads G L b (dictCells d to ty)) (hy : d.young ≠ []) :
    Spec Tryz.prog G 149 [.pointer (some ⟨b, 0, none⟩)] L fun v L' => v = .bool true ∧ L' = L := (moving_spec (d := d) to ty).mono (by rintro _ _ ⟨rfl, rfl⟩; simp [hy])

/-- (*Dict).Set -/
theorem set_spec {G : World} {F : List HP} {b to ty : Nat} {d : D (Nat × Value)} (key : ByteArray) (q : Option Addr) (ok : DOk d) (hk : key.size ≤ 9223372036854775806) (hn : d.n ≤ 1099511627776) :
    Spec Tryz.prog G 107 [.pointer (some ⟨b, 0, none⟩), .string key, .pointer q] (dictL τK b d to ty ++ F) fun v L' => ∃ to' ty' e,
      L' = dictL τK b (d.set key (fun p => (p.1, .pointer q)) (e, .pointer q)) to' ty' ++ F ∧ v = .bool (d.step.find key).isNone := by
  have ok' := ok.step
  have hn' : d.step.n ≤ 1099511627776 := by rw [D.step_n]; exact hn
  refine spec_of_run Tryz.func107 rfl rfl ?_
  refine run_seq ?_
  refine run_region ?_
  refine k_val (ev_assign rfl) rfl ?_
  refine run_seq ?_
  refine run_seq ?_
  refine run_region ?_
  refine k_val (ev_move rfl) rfl ?_
  refine k_val (ev_eqNil rfl rfl (by kernel_rfl)) rfl ?_
  refine run_cond (t := false) rfl ?_
  refine run_skip ?_
  refine run_seq ?_
  refine run_region ?_
  refine k_val (ev_move rfl) rfl ?_
  refine k_call rfl rfl (by kernel_rfl) (step_spec ok) ?_
  rintro _ _ ⟨to, ty, rfl⟩
  unfold D.set
  generalize d.step = d at *
  haveI := dict_reads (G := G) (F := F) (b := b) (to := to) (ty := ty) (d := d)
  have hR := dict_tabR (G := G) (F := F) (b := b) (to := to) (ty := ty) (d := d)
  refine run_seq ?_
  refine run_seq ?_
  refine run_region ?_
  refine k_val (ev_move rfl) rfl ?_
  refine k_val (ev_move rfl) rfl ?_
  refine k_call rfl rfl (by kernel_rfl) (find_spec (d := d) to ty key hR.1 hR.2 hk (by have := ok'.lo; omega) (by have := ok'.ly; omega)) ?_
  rintro _ _ ⟨rfl, rfl⟩
  cases hf : (d.find key).isSome with
  | true =>
    obtain ⟨e, v, bb, off, cells, nx, h1, h2, hrd, hcell, hre⟩ := dict_find hf hR
    rw [h2]
    obtain ⟨Z, nx', p1, p2⟩ := dict_upd τK (b := b) (to := to) (ty := ty) h1 F
    refine k_val (ev_assign rfl) rfl ?_
    refine run_seq ?_
    refine run_region ?_
    refine k_val (ev_move rfl) rfl ?_
    refine k_val (ev_neNil rfl rfl (by kernel_rfl)) rfl ?_
    refine run_cond (t := true) rfl ?_
    refine run_seq ?_
    refine run_region ?_
    refine k_val (ev_move rfl) rfl ?_
    refine k_val (ev_nilCheck rfl) rfl ?_
    refine k_val (ev_loadAt rfl (by assumption) (by kernel_rfl)) rfl ?_
    refine k_val (ev_move rfl) rfl ?_
    refine k_val (ev_nilCheck rfl) rfl ?_
    refine k_val (ev_fieldAddr0 1 rfl (by kernel_rfl)) rfl ?_
    refine OpK.perm p1 ?_
    refine k_store rfl rfl rfl rfl (by kernel_rfl) ?_
    refine run_seq ?_
    refine run_region ?_
    refine k_val (ev_assign rfl) rfl ?_
    refine Run.perm ?_ (p2 (fun p => (p.1, .pointer q)) (.pointer q) rfl).symm
    exact ret_spec Tryz.func107 rfl rfl ⟨to, ty, e, rfl, by simp [packed, h1]⟩
  | false =>
    have hf' := D.step_find_isSome hf
    rw [dict_lost hf']
    have h1 := ok'.lo
    have h2 := ok'.yo
    refine k_val (ev_assign rfl) rfl ?_
    refine run_seq ?_
    refine run_region ?_
    refine k_val (ev_move rfl) rfl ?_
    refine k_val (ev_neNil rfl rfl (by kernel_rfl)) rfl ?_
    refine run_cond (t := false) rfl ?_
    refine run_skip ?_
    refine run_seq ?_
    refine run_cut (κ := Nat × Nat) (fun _ => True) (fun _ => [(0, .pointer (some ⟨b, 0, none⟩)), (1, .string key), (2, .pointer q)]) (fun x => dictL τK b d.grown x.1 x.2 ++ F) ?_ ?_
    · rintro ⟨to, ty⟩ _
      have hgn : d.grown.n = d.n := by unfold D.grown; repeat' split
                                       all_goals rfl
      have hgo : d.grown.old ≠ [] ∧ d.grown.old.length ≤ 1152921504606846976 ∧ d.grown.young.length ≤ 1152921504606846976 := by
        have hly := ok'.ly
        unfold D.grown
        split
        · rename_i h; simp [List.replicate]; omega
        · rename_i h
          split
          · rename_i h'; exact ⟨h, h1, by simp; omega⟩
          · exact ⟨h, h1, hly⟩
      simp only [if_neg (show ¬ false = true by simp), D.insert]
      have hnn : d.n ≤ 1099511627776 := hn'
      have hgs : d.grown.seed = d.seed := by unfold D.grown; repeat' split
                                             all_goals rfl
      rw [← hgn] at hnn ⊢
      rw [← hgs]
      generalize d.grown = g at *
      obtain ⟨ho, hlo, hly⟩ := hgo
      have hol := List.length_pos_iff.2 ho
      have hr0 := dict_reads (G := G) (F := F) (b := b) (to := to) (ty := ty) (d := g)
      haveI hexp : Reads G (dictL τK b g to ty ++ F) b #[.int .u64 g.seed, .slice (some ⟨to, 0, none⟩) g.old.length g.old.length, tabV ty g.young, .int .i64 g.at_, .int .i64 g.n] := by
        have := hr0; unfold dictCells at this; rwa [tabV_cons ho] at this
      refine run_seq ?_
      refine run_region ?_
      refine k_val (ev_move rfl) rfl ?_
      refine k_val (ev_nilCheck rfl) rfl ?_
      refine k_val (ev_fieldAddr0 1 rfl (by kernel_rfl)) rfl ?_
      refine k_val (ev_load rfl (by kernel_rfl)) rfl ?_
      refine k_val (ev_assign rfl) rfl ?_
      refine run_seq ?_
      refine run_seq ?_
      refine run_region ?_
      refine k_val (ev_move rfl) rfl ?_
      by_cases hy : g.young = []
      · refine k_call rfl rfl (by kernel_rfl) (moving_no hr0 hy) ?_
        rintro _ _ ⟨rfl, rfl⟩
        refine run_cond (t := false) rfl ?_
        refine run_skip ?_
        refine run_seq ?_
        refine run_region ?_
        refine k_val (ev_move rfl) rfl ?_
        refine k_val (ev_move rfl) rfl ?_
        refine k_val (ev_move rfl) rfl ?_
        refine k_val (ev_move rfl) rfl ?_
        refine k_val (ev_build1 [.string ByteArray.empty, .pointer none, .pointer none] [0, 1] (by kernel_rfl) (by kernel_rfl) rfl rfl rfl) rfl ?_
        refine k_boxAgg rfl rfl ?_
        intro nb1
        obtain ⟨c, hc⟩ : ∃ c, g.old[slot g.seed key g.old.length]? = some c := ⟨_, List.getElem?_eq_getElem (slot_lt hol (by omega)).2.2⟩
        refine OpK.perm (L' := Blk nb1 (.cells #[.string key, .pointer q, .pointer none] 184 (0, 0)) :: Blk to (.cells (tabCells g.old) 182 (0, 0)) :: Blk b (.cells #[.int .u64 g.seed, .slice (some ⟨to, 0, none⟩) g.old.length g.old.length, .slice none 0 0, .int .i64 g.at_, .int .i64 g.n] 165 (0, 0)) :: (rowL τK g.old ++ F)) ?_ ?_
        · unfold dictL dictCells
          rw [hy, tabL_nil, tabV_nil, List.append_nil, tabL_cons τK ho, tabV_cons ho]
          exact .cons _ (.swap _ _ _)
        refine k_call rfl rfl (by kernel_rfl) (hang_spec g.old key c hk ho (by omega) hc) ?_
        rintro _ _ rfl
        refine run_seq ?_
        refine run_region ?_
        refine k_val (ev_move rfl) rfl ?_
        refine k_val (ev_nilCheck rfl) rfl ?_
        refine k_val (ev_fieldAddr0 4 rfl (by kernel_rfl)) rfl ?_
        refine k_val (ev_load rfl (by kernel_rfl)) rfl ?_
        refine k_val (ev_addN (n := 1) rfl rfl rfl rfl (by omega)) rfl ?_
        refine k_val (ev_nilCheck rfl) rfl ?_
        refine k_val (ev_fieldAddr0 4 rfl (by kernel_rfl)) rfl ?_
        refine k_store rfl rfl rfl rfl (by kernel_rfl) ?_
        refine run_seq ?_
        refine run_region ?_
        refine k_val (ev_assign rfl) rfl ?_
        refine Run.perm (L' := dictL τK b { g with old := D.lay g.seed g.old (key, nb1, .pointer q), n := g.n + 1 } to 0 ++ F) ?_ ?_
        · refine ret_spec Tryz.func107 rfl rfl ⟨to, 0, nb1, ?_, by simp [packed, hf']⟩
          simp [hy]
        · refine (List.Perm.trans (List.Perm.cons _ (List.Perm.swap _ _ _)) (List.Perm.swap _ _ _)).trans ?_
          have hne : D.lay g.seed g.old (key, nb1, Value.pointer q) ≠ [] := by
            intro h; have := congrArg List.length h; rw [D.lay_length] at this; simp at this; exact ho this
          unfold dictL dictCells
          rw [hy, tabL_nil, tabV_nil, List.append_nil, tabV_cons hne, D.lay_length]
          exact (lay_perm1 τK (k := key) (e := nb1) (v := .pointer q) hc).cons _
      · refine k_call rfl rfl (by kernel_rfl) (moving_yes hr0 hy) ?_
        rintro _ _ ⟨rfl, rfl⟩
        have hyl := List.length_pos_iff.2 hy
        haveI hexp2 : Reads G (dictL τK b g to ty ++ F) b #[.int .u64 g.seed, .slice (some ⟨to, 0, none⟩) g.old.length g.old.length, .slice (some ⟨ty, 0, none⟩) g.young.length g.young.length, .int .i64 g.at_, .int .i64 g.n] := by
          rwa [tabV_cons hy] at hexp
        refine run_cond (t := true) rfl ?_
        refine run_region ?_
        refine k_val (ev_move rfl) rfl ?_
        refine k_val (ev_nilCheck rfl) rfl ?_
        refine k_val (ev_fieldAddr0 2 rfl (by kernel_rfl)) rfl ?_
        refine k_val (ev_load rfl (by kernel_rfl)) rfl ?_
        refine k_val (ev_assign rfl) rfl ?_
        refine run_seq ?_
        refine run_region ?_
        refine k_val (ev_move rfl) rfl ?_
        refine k_val (ev_move rfl) rfl ?_
        refine k_val (ev_move rfl) rfl ?_
        refine k_val (ev_move rfl) rfl ?_
        refine k_val (ev_build1 [.string ByteArray.empty, .pointer none, .pointer none] [0, 1] (by kernel_rfl) (by kernel_rfl) rfl rfl rfl) rfl ?_
        refine k_boxAgg rfl rfl ?_
        intro nb1
        obtain ⟨c, hc⟩ : ∃ c, g.young[slot g.seed key g.young.length]? = some c := ⟨_, List.getElem?_eq_getElem (slot_lt hyl (by omega)).2.2⟩
        refine OpK.perm (L' := Blk nb1 (.cells #[.string key, .pointer q, .pointer none] 184 (0, 0)) :: Blk ty (.cells (tabCells g.young) 182 (0, 0)) :: Blk b (.cells #[.int .u64 g.seed, .slice (some ⟨to, 0, none⟩) g.old.length g.old.length, .slice (some ⟨ty, 0, none⟩) g.young.length g.young.length, .int .i64 g.at_, .int .i64 g.n] 165 (0, 0)) :: (rowL τK g.young ++ (tabL τK to g.old ++ F))) ?_ ?_
        · unfold dictL dictCells
          rw [tabL_cons τK hy, tabV_cons ho, tabV_cons hy, List.cons_append, List.append_assoc]
          refine .cons _ (List.Perm.trans (.cons _ ?_) (.swap _ _ _))
          exact List.perm_append_comm_assoc _ (Blk ty _ :: _) _
        refine k_call rfl rfl (by kernel_rfl) (hang_spec g.young key c hk hy (by omega) hc) ?_
        rintro _ _ rfl
        refine run_seq ?_
        refine run_region ?_
        refine k_val (ev_move rfl) rfl ?_
        refine k_val (ev_nilCheck rfl) rfl ?_
        refine k_val (ev_fieldAddr0 4 rfl (by kernel_rfl)) rfl ?_
        refine k_val (ev_load rfl (by kernel_rfl)) rfl ?_
        refine k_val (ev_addN (n := 1) rfl rfl rfl rfl (by omega)) rfl ?_
        refine k_val (ev_nilCheck rfl) rfl ?_
        refine k_val (ev_fieldAddr0 4 rfl (by kernel_rfl)) rfl ?_
        refine k_store rfl rfl rfl rfl (by kernel_rfl) ?_
        refine run_seq ?_
        refine run_region ?_
        refine k_val (ev_assign rfl) rfl ?_
        refine Run.perm (L' := dictL τK b { g with young := D.lay g.seed g.young (key, nb1, .pointer q), n := g.n + 1 } to ty ++ F) ?_ ?_
        · refine ret_spec Tryz.func107 rfl rfl ⟨to, ty, nb1, ?_, by simp [packed, hf']⟩
          simp [hy]
        · refine (List.Perm.trans (List.Perm.cons _ (List.Perm.swap _ _ _)) (List.Perm.swap _ _ _)).trans ?_
          have hne : D.lay g.seed g.young (key, nb1, Value.pointer q) ≠ [] := by
            intro h; have := congrArg List.length h; rw [D.lay_length] at this; simp at this; exact hy this
          unfold dictL dictCells
          rw [tabV_cons hne, D.lay_length, tabV_cons ho, List.cons_append, List.append_assoc]
          exact ((lay_perm1 τK (k := key) (e := nb1) (v := .pointer q) hc).trans (List.perm_append_comm_assoc _ _ _)).cons _
    · intro join
      by_cases ho : d.old = []
      · have hy : d.young = [] := by
          by_cases h : d.young = []
          · exact h
          · exact absurd ho (h2 h)
        have hg : d.grown = { d with old := List.replicate 4 [] } := by unfold D.grown; rw [if_pos ho]
        unfold dictL dictCells
        rw [ho, hy]
        simp only [tabL_nil, tabV_nil, List.nil_append, List.cons_append]
        refine run_block ?_
        refine run_seq ?_
        refine run_region ?_
        refine k_val (ev_move rfl) rfl ?_
        refine k_val (ev_nilCheck rfl) rfl ?_
        refine k_val (ev_fieldAddr0 1 rfl (by kernel_rfl)) rfl ?_
        refine k_val (ev_load rfl (by kernel_rfl)) rfl ?_
        refine k_val (ev_lenSlice (e := 182) rfl (by kernel_rfl)) rfl ?_
        refine k_val (ev_bT (ev_eqI rfl rfl) (by first | assumption | omega)) rfl ?_
        refine k_val (ev_assign rfl) rfl ?_
        refine run_cond (t := true) rfl ?_
        refine run_region ?_
        refine k_val (ev_move rfl) rfl ?_
        refine k_makeSlice1 (e := 182) (B := 8) (c := 4) (.pointer none) rfl rfl rfl rfl ⟨by kernel_rfl, by kernel_rfl, by kernel_rfl, by kernel_rfl⟩ (by omega) (by omega) rfl ?_
        intro nb1
        refine k_val (ev_nilCheck rfl) rfl ?_
        refine k_val (ev_fieldAddr0 1 rfl (by kernel_rfl)) rfl ?_
        refine k_store rfl rfl rfl rfl (by kernel_rfl) ?_
        refine run_inBlock ?_
        refine Run.mem (L' := dictL τK b d.grown nb1 0 ++ F) ?_ ?_
        · exact join (nb1, 0) _ trivial ⟨rfl, rfl, rfl, trivial⟩
        · intro w hw
          rw [hg]
          unfold dictL dictCells
          simp only [hy, tabL_nil, tabV_nil, List.append_nil, List.cons_append]
          rw [tabL_replicate (by decide), tabV_replicate (by decide)]
          exact hw.swap
      · have hol := List.length_pos_iff.2 ho
        haveI hexp : Reads G (dictL τK b d to ty ++ F) b #[.int .u64 d.seed, .slice (some ⟨to, 0, none⟩) d.old.length d.old.length, tabV ty d.young, .int .i64 d.at_, .int .i64 d.n] := by
          have := this; unfold dictCells at this; rwa [tabV_cons ho] at this
        refine run_block ?_
        refine run_seq ?_
        refine run_region ?_
        refine k_val (ev_move rfl) rfl ?_
        refine k_val (ev_nilCheck rfl) rfl ?_
        refine k_val (ev_fieldAddr0 1 rfl (by kernel_rfl)) rfl ?_
        refine k_val (ev_load rfl (by kernel_rfl)) rfl ?_
        refine k_val (ev_lenSlice (e := 182) rfl (by kernel_rfl)) rfl ?_
        refine k_val (ev_bF (ev_eqI rfl rfl) (by first | assumption | omega)) rfl ?_
        refine k_val (ev_assign rfl) rfl ?_
        refine run_cond (t := false) rfl ?_
        refine run_seq ?_
        refine run_quiet (by kernel_rfl) (by kernel_rfl) ?_
        refine q_val (ev_move rfl) rfl ?_
        by_cases hy : d.young = []
        · refine q_callE rfl rfl (by kernel_rfl) (moving_no this hy) ?_
          by_cases hg0 : d.old.length ≤ d.n
          · have hg : d.grown = { d with young := List.replicate (2 * d.old.length) [] } := by unfold D.grown; rw [if_neg ho, if_pos ⟨hy, hg0⟩]
            have hL : dictL τK b d to ty ++ F = Blk b (.cells #[.int .u64 d.seed, .slice (some ⟨to, 0, none⟩) d.old.length d.old.length, .slice none 0 0, .int .i64 d.at_, .int .i64 d.n] 165 (0, 0)) :: (tabL τK to d.old ++ F) := by
              unfold dictL dictCells
              simp only [hy, tabL_nil, tabV_nil, List.append_nil, List.cons_append, tabV_cons ho]
            refine q_val (ev_not rfl) rfl ?_
            refine q_val (ev_move rfl) rfl ?_
            refine q_guard rfl rfl rfl ?_
            refine q_val (ev_move rfl) rfl ?_
            refine q_guard rfl rfl rfl ?_
            refine q_val (ev_nilCheck rfl) rfl ?_
            refine q_guard rfl rfl rfl ?_
            refine q_val (ev_fieldAddr0 4 rfl (by kernel_rfl)) rfl ?_
            refine q_guard rfl rfl rfl ?_
            refine q_val (ev_load rfl (by kernel_rfl)) rfl ?_
            refine q_guard rfl rfl rfl ?_
            refine q_val (ev_move rfl) rfl ?_
            refine q_guard rfl rfl rfl ?_
            refine q_val (ev_nilCheck rfl) rfl ?_
            refine q_guard rfl rfl rfl ?_
            refine q_val (ev_fieldAddr0 1 rfl (by kernel_rfl)) rfl ?_
            refine q_guard rfl rfl rfl ?_
            refine q_val (ev_load rfl (by kernel_rfl)) rfl ?_
            refine q_guard rfl rfl rfl ?_
            refine q_val (ev_lenSlice (e := 182) rfl (by kernel_rfl)) rfl ?_
            refine q_guard rfl rfl rfl ?_
            refine q_val (ev_bT (ev_ge rfl rfl) (by first | assumption | omega)) rfl ?_
            refine q_val (ev_pickT rfl rfl) rfl ?_
            refine q_val (ev_assign rfl) rfl ?_
            refine q_nil ?_
            refine run_cond (t := true) rfl ?_
            refine run_region ?_
            refine k_val (ev_move rfl) rfl ?_
            refine k_val (ev_move rfl) rfl ?_
            refine k_val (ev_nilCheck rfl) rfl ?_
            refine k_val (ev_fieldAddr0 1 rfl (by kernel_rfl)) rfl ?_
            refine k_val (ev_load rfl (by kernel_rfl)) rfl ?_
            refine k_val (ev_lenSlice (e := 182) rfl (by kernel_rfl)) rfl ?_
            refine k_val (ev_mulN (m := 2) rfl rfl rfl rfl (by omega)) rfl ?_
            refine k_makeSlice1 (e := 182) (B := 8) (.pointer none) rfl rfl rfl rfl ⟨by kernel_rfl, by kernel_rfl, by kernel_rfl, by kernel_rfl⟩ (by omega) (by omega) rfl ?_
            intro nb1
            refine k_val (ev_nilCheck rfl) rfl ?_
            refine k_val (ev_fieldAddr0 2 rfl (by kernel_rfl)) rfl ?_
            rw [hL]
            refine k_store rfl rfl rfl rfl (by kernel_rfl) ?_
            refine run_inBlock ?_
            refine Run.mem (L' := dictL τK b d.grown to nb1 ++ F) ?_ ?_
            · exact join (to, nb1) _ trivial ⟨rfl, rfl, rfl, trivial⟩
            · intro w hw
              rw [hg]
              unfold dictL dictCells
              simp only [List.cons_append]
              rw [tabL_replicate (by omega), tabV_replicate (by omega), tabV_cons ho]
              exact hw.swap.perm (.cons _ (by rw [List.append_assoc]; exact List.perm_middle.symm))
          · have hg : d.grown = d := by unfold D.grown; rw [if_neg ho, if_neg (by simp [hg0])]
            rw [hg] at join
            refine q_val (ev_not rfl) rfl ?_
            refine q_val (ev_move rfl) rfl ?_
            refine q_guard rfl rfl rfl ?_
            refine q_val (ev_move rfl) rfl ?_
            refine q_guard rfl rfl rfl ?_
            refine q_val (ev_nilCheck rfl) rfl ?_
            refine q_guard rfl rfl rfl ?_
            refine q_val (ev_fieldAddr0 4 rfl (by kernel_rfl)) rfl ?_
            refine q_guard rfl rfl rfl ?_
            refine q_val (ev_load rfl (by kernel_rfl)) rfl ?_
            refine q_guard rfl rfl rfl ?_
            refine q_val (ev_move rfl) rfl ?_
            refine q_guard rfl rfl rfl ?_
            refine q_val (ev_nilCheck rfl) rfl ?_
            refine q_guard rfl rfl rfl ?_
            refine q_val (ev_fieldAddr0 1 rfl (by kernel_rfl)) rfl ?_
            refine q_guard rfl rfl rfl ?_
            refine q_val (ev_load rfl (by kernel_rfl)) rfl ?_
            refine q_guard rfl rfl rfl ?_
            refine q_val (ev_lenSlice (e := 182) rfl (by kernel_rfl)) rfl ?_
            refine q_guard rfl rfl rfl ?_
            refine q_val (ev_bF (ev_ge rfl rfl) (by first | assumption | omega)) rfl ?_
            refine q_val (ev_pickT rfl rfl) rfl ?_
            refine q_val (ev_assign rfl) rfl ?_
            refine q_nil ?_
            refine run_cond (t := false) rfl ?_
            refine run_skip ?_
            refine run_inBlock ?_
            exact join (to, ty) _ trivial ⟨rfl, rfl, rfl, trivial⟩
        · have hg : d.grown = d := by unfold D.grown; rw [if_neg ho, if_neg (by simp [hy])]
          rw [hg] at join
          refine q_callE rfl rfl (by kernel_rfl) (moving_yes this hy) ?_
          refine q_val (ev_not rfl) rfl ?_
          refine q_val (ev_move rfl) rfl ?_
          refine q_skip rfl rfl rfl rfl ?_
          refine q_skip rfl rfl rfl rfl ?_
          refine q_skip rfl rfl rfl rfl ?_
          refine q_skip rfl rfl rfl rfl ?_
          refine q_skip rfl rfl rfl rfl ?_
          refine q_skip rfl rfl rfl rfl ?_
          refine q_skip rfl rfl rfl rfl ?_
          refine q_skip rfl rfl rfl rfl ?_
          refine q_skip rfl rfl rfl rfl ?_
          refine q_skip rfl rfl rfl rfl ?_
          refine q_val (ev_pickF rfl rfl) rfl ?_
          refine q_val (ev_assign rfl) rfl ?_
          refine q_nil ?_
          refine run_cond (t := false) rfl ?_
          refine run_skip ?_
          refine run_inBlock ?_
          exact join (to, ty) _ trivial ⟨rfl, rfl, rfl, trivial⟩
end Go.PS
