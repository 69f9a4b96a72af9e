/-
  The pool's Candidates, Take, Offer, walked.
  Conditions: each contract's own.
-/
import Derived.Test.YtopkabhgkhjecaaGreatCandEq
namespace Go.PS
open Go Go.Proofs Go.Shelf Go.Sort
set_option maxRecDepth 10000

section
variable {G : World} {L F : List HP} {b : Nat} {p : Pl}

theorem cands_spec (hn : p.row.length ≤ 1099511627776) : Spec Tryz.prog G 18 [ptrV b] (PoolA b p :: F) fun u L' => L' = OwnSl 53 2 p.row.length u (p.row.flatMap candV) :: PoolA b p :: F := by
  refine Spec.exm (fun _ hw => sat_pool hw) ?_
  rintro ⟨base, cap⟩ -
  simp only
  refine spec_of_run Tryz.func18 rfl rfl ?_
  refine run_seq ?_
  refine run_region ?_
  refine k_val (ev_assign rfl) rfl ?_
  refine run_seq ?_
  refine run_seq ?_
  refine run_region ?_
  refine k_val (ev_move rfl) rfl ?_
  refine k_val (ev_eqNil rfl rfl (by kernel_rfl)) rfl ?_
  refine run_cond (t := false) rfl ?_
  refine run_skip ?_
  refine run_seq ?_
  refine run_region ?_
  refine k_val (ev_move rfl) rfl ?_
  refine k_val (ev_nilCheck rfl) rfl ?_
  refine k_val (ev_fieldAddr0 1 rfl (by kernel_rfl)) rfl ?_
  refine k_val (ev_load rfl (by kernel_rfl)) rfl ?_
  refine OpK.perm (List.Perm.swap _ _ _) ?_
  refine k_call rfl rfl (by kernel_rfl) (clone_spec hn) ?_
  rintro u _ rfl
  refine k_val (ev_assign rfl) rfl ?_
  refine Run.mem (L' := OwnSl 53 2 p.row.length u (p.row.flatMap candV) :: PoolA b p :: F) (ret_spec Tryz.func18 rfl rfl rfl) (fun w hw => ?_)
  have h1 : Sat G w (Blk b (.cells #[.int .i64 p.most, .slice base p.row.length cap] 95 (0, 0)) :: OwnSl 53 2 p.row.length (.slice base p.row.length cap) (p.row.flatMap candV) :: OwnSl 53 2 p.row.length u (p.row.flatMap candV) :: F) := by
    revert w; exact fun _ hw => sat_pick [2, 1, 0] 0 hw
  exact (sat_mkPool h1).swap

/-- slices.Delete of the first one. -/
theorem del1_spec {x : Cand} {row : List Cand} {v : Value} (hn : (x :: row).length ≤ 1099511627776) :
    Spec Tryz.prog G 100 [v, .int .i64 0, .int .i64 1] (OwnSl 53 2 (x :: row).length v ((x :: row).flatMap candV) :: F) fun u L' => L' = OwnSl 53 2 row.length u (row.flatMap candV) :: F := by
  refine spec_own (args := fun v => [v, .int .i64 0, .int .i64 1]) (fun h _ => by simp at h) ?_
  intro b' cap rest h1 h2 h3
  generalize hX : (x :: row).flatMap candV ++ rest = X at h3
  have hn1 : (x :: row).length = row.length + 1 := rfl
  rw [hn1] at h1 h2 hn ⊢
  refine spec_of_run Tryz.func100 rfl rfl ?_
  refine run_seq ?_
  refine run_region ?_
  refine k_val (ev_assign rfl) rfl ?_
  refine run_seq ?_
  refine run_region ?_
  refine k_val (ev_move rfl) rfl ?_
  refine k_val (ev_move rfl) rfl ?_
  refine k_val (ev_move rfl) rfl ?_
  refine k_val (ev_move rfl) rfl ?_
  refine k_val (ev_lenSlice (e := 53) rfl (by kernel_rfl)) rfl ?_
  refine k_val (ev_slice3 (e := 53) (l := 0) (h := 1) (c := row.length + 1) 2 rfl rfl rfl rfl (by omega) (by omega) (by omega) (by kernel_rfl) (by kernel_rfl)) rfl ?_
  refine run_seq ?_
  refine run_seq ?_
  refine run_region ?_
  refine k_val (ev_move rfl) rfl ?_
  refine k_val (ev_move rfl) rfl ?_
  refine k_val (ev_bF (ev_eqI rfl rfl) (by first | assumption | omega)) rfl ?_
  refine run_cond (t := false) rfl ?_
  refine run_skip ?_
  refine run_seq ?_
  refine run_region ?_
  refine k_val (ev_move rfl) rfl ?_
  refine k_val (ev_lenSlice (e := 53) rfl (by kernel_rfl)) rfl ?_
  refine k_val (ev_assign rfl) rfl ?_
  refine run_seq ?_
  refine run_tail 6 (by kernel_rfl) (by kernel_rfl) ?_
  refine q_val (ev_move rfl) rfl ?_
  refine q_val (ev_move rfl) rfl ?_
  refine q_val (ev_slice (e := 53) (l := 0) (h := 0) 2 rfl rfl ⟨_, rfl⟩ (by omega) (by omega) (by kernel_rfl) (by kernel_rfl)) rfl ?_
  have e0 : (if cap = 0 then (some ⟨b', 0, none⟩ : Option Addr) else (some ⟨b', 0, none⟩ : Option Addr).map (·.add (0 * 2))) = some ⟨b', 0, none⟩ := by
    split <;> rfl
  rw [e0]
  refine q_val (ev_move rfl) rfl ?_
  refine q_val (ev_move rfl) rfl ?_
  obtain ⟨off2, ho⟩ : ∃ off2, off2 = if cap = 1 then 0 else 2 := ⟨_, rfl⟩
  have e1 : (if cap = 1 then (some ⟨b', 0, none⟩ : Option Addr) else (some ⟨b', 0, none⟩ : Option Addr).map (·.add (1 * 2))) = some ⟨b', off2, none⟩ := by
    rw [ho]; split <;> rfl
  have hXv : X = candV x ++ (row.flatMap candV ++ rest) := by rw [← hX]; rfl
  have hrl : (row.flatMap candV).length = row.length * 2 := flatMap_len (enc := candV) (k := 2) (fun _ => rfl) row
  have hext : (X.toArray.extract off2 (off2 + row.length * 2)).toList = row.flatMap candV := by
    by_cases hc : cap = 1
    · have h0 : row.length = 0 := by omega
      have h00 : row = [] := List.length_eq_zero_iff.1 h0
      rw [h00]; simp
    · rw [ho, if_neg hc, hXv]
      simp only [Array.toList_extract, List.extract_eq_take_drop, Nat.add_sub_cancel_left]
      rw [List.drop_left' (show (candV x).length = 2 from rfl), List.take_left' hrl]
  refine q_val (ev_slice (e := 53) (l := 1) (h := row.length + 1) 2 rfl ⟨_, rfl⟩ rfl (by omega) (by omega) (by kernel_rfl) (by kernel_rfl)) rfl ?_
  rw [e1]
  refine q_nil ?_
  refine k_appendFit (e := 53) (B := 24) (n := 0) (m := row.length) (cap := cap) (mc := cap - 1) (b := b') (b2 := b') (off2 := off2) (C := X.toArray) (D := X.toArray) (z := #[.string ByteArray.empty, .int .u64 0]) 46 rfl rfl ⟨by kernel_rfl, by kernel_rfl, by kernel_rfl, by kernel_rfl⟩ rfl (by kernel_rfl) (by omega) ?_ ?_ ?_ (by decide) (by omega) rfl ?_
  · simpa using h3
  · simp only [List.size_toArray, h3, List.length_cons, List.length_nil]
    by_cases hc : cap = 1
    · rw [ho, if_pos hc]; omega
    · rw [ho, if_neg hc]; omega
  · intro q hq
    simp only [List.size_toArray, List.length_cons, List.length_nil] at hq
    rw [show (0 + 1 + 1 : Nat) = 2 from rfl, hext] at hq
    obtain ⟨x, _, hx⟩ := List.mem_flatMap.1 hq
    simp only [List.mem_cons, List.not_mem_nil, or_false] at hx
    rcases hx with rfl | rfl <;> rfl
  simp only [List.size_toArray, List.length_cons, List.length_nil, Nat.zero_mul, Nat.zero_add, Nat.reduceAdd, List.take_zero, List.nil_append]
  rw [hext]
  refine k_val (ev_assign rfl) rfl ?_
  refine run_seq ?_
  refine run_region ?_
  refine k_val (ev_move rfl) rfl ?_
  refine k_val (ev_move rfl) rfl ?_
  refine k_val (ev_lenSlice (e := 53) rfl (by kernel_rfl)) rfl ?_
  refine k_val (ev_move rfl) rfl ?_
  refine k_val (ev_sliceB (e := 53) 2 rfl ⟨_, rfl⟩ ⟨_, rfl⟩ (by omega) (by omega) (by omega) (by kernel_rfl) (by kernel_rfl)) rfl ?_
  refine k_clearSl (e := 53) (B := 24) (z := #[.string ByteArray.empty, .int .u64 0]) rfl ⟨by kernel_rfl, by kernel_rfl, by kernel_rfl, by kernel_rfl⟩ ?_ rfl ?_
  · simp only [List.size_toArray, List.length_cons, List.length_nil, List.length_append, List.length_drop, hrl]
    rw [h3, Nat.add_sub_cancel_left]; omega
  intro D hD
  refine ⟨_, ⟨[], _, _, rfl, rfl⟩, ?_⟩
  refine run_seq ?_
  refine run_region ?_
  refine k_val (ev_move rfl) rfl ?_
  refine k_val (ev_assign rfl) rfl ?_
  refine Run.mem (L' := OwnSl 53 2 row.length (.slice (some ⟨b', 0, none⟩) row.length cap) (row.flatMap candV) :: F) (ret_spec Tryz.func100 rfl rfl rfl) (fun w hw => ?_)
  simp only [List.size_toArray, List.length_cons, List.length_nil, Nat.zero_add, Nat.reduceAdd, Nat.add_sub_cancel_left, List.nil_append] at hD hw
  rw [List.take_left' hrl, List.append_assoc] at hw
  refine sat_ownBlk (by omega) hrl ?_ hw
  rw [List.length_append, List.length_append, List.length_drop, List.length_append, List.length_drop, hrl, hD, h3]
  omega

theorem sat_poolX {w : World} (H : Sat G w (PoolA b p :: L)) : ∃ z : Option Addr × Nat × List HP, OwnP G 53 2 p.row.length (.slice z.1 p.row.length z.2.1) (p.row.flatMap candV) z.1 z.2.1 z.2.2 ∧
    Sat G w (Blk b (.cells #[.int .i64 p.most, .slice z.1 p.row.length z.2.1] 95 (0, 0)) :: (z.2.2 ++ L)) := by
  obtain ⟨⟨base, cap⟩, -, h1⟩ := sat_pool H
  obtain ⟨⟨base', cap', M⟩, h2, h3⟩ := own_x h1.swap
  have h4 := h2.val
  injection h4 with e1 _ e2
  simp only at e1 e2 h2 h3
  subst e1 e2
  exact ⟨(base, cap, M), h2, h3.perm List.perm_middle⟩

theorem OwnP.shutA {w : World} {e sz n cap : Nat} {v : Value} {X : List Value} {base : Option Addr} {M : List HP} (hO : OwnP G e sz n v X base cap M) {A : List HP} (H : Sat G w (A ++ (M ++ F))) : Sat G w (OwnSl e sz n v X :: (A ++ F)) :=
  hO.shut w _ (H.perm (List.perm_append_comm_assoc A M F))

theorem take_spec (hn : p.row.length ≤ 1099511627776) : Spec Tryz.prog G 50 [ptrV b] (PoolA b p :: F) fun v L' =>
    p.row = [] ∧ v = .tuple #[.agg #[.string ByteArray.empty, .int .u64 0], .bool false] ∧ (∃ X, L' = X :: PoolA b p :: F) ∨ ∃ x t, p.row = x :: t ∧ v = .tuple #[.agg (candV x).toArray, .bool true] ∧ ∃ X, L' = X :: PoolA b { p with row := t } :: F := by
  refine Spec.exm (fun _ hw => sat_poolX hw) ?_
  rintro ⟨base, cap, M⟩ hO
  simp only at hO ⊢
  refine spec_of_run Tryz.func50 rfl rfl ?_
  cases hr : p.row with
  | nil =>
    simp only [List.length_nil]
    refine run_seq ?_
    refine run_region ?_
    refine k_alloc (#[.string ByteArray.empty, .int .u64 0]) (by kernel_rfl) rfl ?_
    intro nb1
    refine k_val (ev_assign rfl) rfl ?_
    refine run_seq ?_
    refine run_seq ?_
    refine run_region ?_
    refine k_val (ev_move rfl) rfl ?_
    refine k_val (ev_eqNil rfl rfl (by kernel_rfl)) rfl ?_
    refine k_val (ev_move rfl) rfl ?_
    refine k_guard rfl rfl rfl ?_
    refine k_val (ev_move rfl) rfl ?_
    refine k_guard rfl rfl rfl ?_
    refine k_val (ev_nilCheck rfl) rfl ?_
    refine k_guard rfl rfl rfl ?_
    refine k_val (ev_fieldAddr0 1 rfl (by kernel_rfl)) rfl ?_
    refine k_guard rfl rfl rfl ?_
    refine k_val (ev_load rfl (by kernel_rfl)) rfl ?_
    refine k_guard rfl rfl rfl ?_
    refine k_val (ev_lenSlice (e := 53) rfl (by kernel_rfl)) rfl ?_
    refine k_guard rfl rfl rfl ?_
    refine k_val (ev_bT (ev_eqI rfl rfl) (by first | assumption | omega)) rfl ?_
    refine k_val (ev_pickF rfl rfl) rfl ?_
    refine run_cond (t := true) rfl ?_
    refine run_seq ?_
    refine run_region ?_
    refine k_val (ev_build1 [.string ByteArray.empty, .int .u64 0] [] (by kernel_rfl) (by kernel_rfl) rfl rfl rfl) rfl ?_
    refine k_storeAllS 2 rfl rfl rfl rfl rfl (by kernel_rfl) ?_
    refine k_val (ev_assign rfl) rfl ?_
    refine Run.mem (L' := Blk nb1 (.cells #[.string ByteArray.empty, .int .u64 0] 53 (0, 0)) :: PoolA b p :: F) (ret_specR Tryz.func50 rfl (resR_cell rfl (by kernel_rfl) (resR_tmp rfl resR_nil)) (.inl ⟨trivial, rfl, _, rfl⟩)) (fun w hw => ?_)
    have h2 := hO.shutA (A := [_, _]) hw
    rw [hr] at h2
    refine (sat_mkPool (p := p) (v := .slice base 0 cap) ?_).swap
    rw [hr]
    exact h2.perm (List.perm_middle (l₁ := [_, _]))
  | cons x t =>
    rw [hr] at hO hn
    rcases hO.rd with ⟨_, h, _⟩ | ⟨b', C, rfl, hC, hCs, hM⟩
    · simp at h
    have hrow := row_elem (enc := candV) (k := 2) (fun _ => rfl) (by decide) hC (i := 0) (x := x) rfl
    haveI := hM F
    have hle := hO.le
    have hpos : 0 < (x :: t).length := Nat.succ_pos _
    refine run_seq ?_
    refine run_region ?_
    refine k_alloc (#[.string ByteArray.empty, .int .u64 0]) (by kernel_rfl) rfl ?_
    intro nb1
    refine k_val (ev_assign rfl) rfl ?_
    refine run_seq ?_
    refine run_seq ?_
    refine run_region ?_
    refine k_val (ev_move rfl) rfl ?_
    refine k_val (ev_eqNil rfl rfl (by kernel_rfl)) rfl ?_
    refine k_val (ev_move rfl) rfl ?_
    refine k_guard rfl rfl rfl ?_
    refine k_val (ev_move rfl) rfl ?_
    refine k_guard rfl rfl rfl ?_
    refine k_val (ev_nilCheck rfl) rfl ?_
    refine k_guard rfl rfl rfl ?_
    refine k_val (ev_fieldAddr0 1 rfl (by kernel_rfl)) rfl ?_
    refine k_guard rfl rfl rfl ?_
    refine k_val (ev_load rfl (by kernel_rfl)) rfl ?_
    refine k_guard rfl rfl rfl ?_
    refine k_val (ev_lenSlice (e := 53) rfl (by kernel_rfl)) rfl ?_
    refine k_guard rfl rfl rfl ?_
    refine k_val (ev_bF (ev_eqI rfl rfl) (by first | assumption | omega)) rfl ?_
    refine k_val (ev_pickF rfl rfl) rfl ?_
    refine run_cond (t := false) rfl ?_
    refine run_skip ?_
    refine run_seq ?_
    refine run_region ?_
    refine k_val (ev_move rfl) rfl ?_
    refine k_val (ev_nilCheck rfl) rfl ?_
    refine k_val (ev_fieldAddr0 1 rfl (by kernel_rfl)) rfl ?_
    refine k_val (ev_load rfl (by kernel_rfl)) rfl ?_
    refine k_val (ev_indexAddrO (e := 53) 2 rfl rfl (by first | assumption | omega) (by kernel_rfl) (by kernel_rfl)) rfl ?_
    refine k_val (ev_loadRow (i := 0) (off := 0 + 0 * 2) 2 rfl rfl hrow (by kernel_rfl)) rfl ?_
    refine k_alloc (#[.string ByteArray.empty, .int .u64 0]) (by kernel_rfl) rfl ?_
    intro nb2
    refine k_storeAllS 2 rfl rfl rfl rfl rfl (by kernel_rfl) ?_
    refine run_seq ?_
    refine run_region ?_
    refine k_val (ev_move rfl) rfl ?_
    refine k_val (ev_move rfl) rfl ?_
    refine k_val (ev_nilCheck rfl) rfl ?_
    refine k_val (ev_fieldAddr0 1 rfl (by kernel_rfl)) rfl ?_
    refine k_val (ev_load rfl (by kernel_rfl)) rfl ?_
    refine RunOps.mem (L' := OwnSl 53 2 (x :: t).length (.slice (some ⟨b', 0, none⟩) (x :: t).length cap) ((x :: t).flatMap candV) :: Blk nb2 (.cells (candV x).toArray 53 (0, 0)) :: Blk nb1 (.cells #[.string ByteArray.empty, .int .u64 0] 53 (0, 0)) ::
      Blk b (.cells #[.int .i64 p.most, .slice (some ⟨b', 0, none⟩) (x :: t).length cap] 95 (0, 0)) :: F) (fun w hw => hO.shutA (A := [_, _, _]) hw) ?_
    refine k_call rfl rfl (by kernel_rfl) (del1_spec hn) ?_
    rintro u _ rfl
    refine RunOps.exm (fun _ hw => own_val hw) ?_
    rintro ⟨base', cap'⟩ rfl
    simp only
    refine k_val (ev_nilCheck rfl) rfl ?_
    refine k_val (ev_fieldAddr0 1 rfl (by kernel_rfl)) rfl ?_
    refine k_store rfl rfl rfl rfl (by kernel_rfl) ?_
    refine run_seq ?_
    refine run_region ?_
    refine k_val (ev_loadAllS 2 rfl rfl (by kernel_rfl)) rfl ?_
    refine k_storeAllS 2 rfl rfl rfl rfl rfl (by kernel_rfl) ?_
    refine k_val (ev_assign rfl) rfl ?_
    refine Run.mem (L' := Blk nb1 (.cells (candV x).toArray 53 (0, 0)) :: PoolA b { p with row := t } :: F) (ret_specR Tryz.func50 rfl (resR_cell rfl (by kernel_rfl) (resR_tmp rfl resR_nil)) (.inr ⟨x, t, rfl, rfl, _, rfl⟩)) (fun w hw => ?_)
    refine (sat_mkPool (p := { p with row := t }) (v := .slice base' t.length cap') ?_).swap
    revert w; exact fun _ hw => sat_pick [3, 0, 1] 1 hw

def candC (x y : Cand) : Int := orI (cmpI x.2 y.2) (cmpS x.1 y.1)
theorem sooner_spec (x y : Cand) : Spec Tryz.prog G 143 [.agg (candV x).toArray, .agg (candV y).toArray] L fun v L' => v = .int .i64 (candC x y) ∧ ∃ X Y Z, L' = X :: Y :: Z :: L := by
  refine spec_of_run Tryz.func143 rfl rfl ?_
  refine run_seq ?_
  refine run_region ?_
  refine k_boxAgg rfl rfl ?_
  intro nb1
  refine k_boxAgg rfl rfl ?_
  intro nb2
  refine k_val (ev_assign rfl) rfl ?_
  refine run_seq ?_
  refine run_tail 10 (by kernel_rfl) (by kernel_rfl) ?_
  refine q_val (ev_fieldAddr0 1 rfl (by kernel_rfl)) rfl ?_
  refine q_val (ev_load rfl (by kernel_rfl)) rfl ?_
  refine q_val (ev_fieldAddr0 1 rfl (by kernel_rfl)) rfl ?_
  refine q_val (ev_load rfl (by kernel_rfl)) rfl ?_
  refine q_callE rfl rfl (by kernel_rfl) (cmpU_spec x.2 y.2) ?_
  refine q_val (ev_fieldAddr0 0 rfl (by kernel_rfl)) rfl ?_
  refine q_val (ev_load rfl (by kernel_rfl)) rfl ?_
  refine q_val (ev_fieldAddr0 0 rfl (by kernel_rfl)) rfl ?_
  refine q_val (ev_load rfl (by kernel_rfl)) rfl ?_
  refine q_callE rfl rfl (by kernel_rfl) (cmpStr_spec x.1 y.1) ?_
  refine q_nil ?_
  refine k_buildSliceN (e := 3) (B := 8) (z := [.int .i64 0]) (zs := [.int .i64 0, .int .i64 0]) [(0, 1), (1, 1)] [0, 1] rfl ⟨by kernel_rfl, by kernel_rfl, by kernel_rfl, by kernel_rfl⟩ rfl (by decide) (by decide) (by decide) (by decide) (by kernel_rfl) rfl ?_
  intro nb3
  refine k_call rfl rfl (by kernel_rfl) (or_spec _ _) ?_
  rintro _ _ ⟨rfl, rfl⟩
  refine k_val (ev_assign rfl) rfl ?_
  exact ret_spec Tryz.func143 rfl rfl ⟨rfl, _, _, _, rfl⟩
theorem ltC_eq (x y : Cand) : ltOf candC x y = lt2 (x.2, x.1) (y.2, y.1) := by
  unfold candC
  exact or_lt2 (x.2, x.1) (y.2, y.1)
theorem ltC_tri {x y : Cand} (h1 : ltOf candC x y = false) (h2 : ltOf candC y x = false) : x = y := by
  rw [ltC_eq] at h1 h2
  have := lt2_tri h1 h2
  exact Prod.ext (congrArg Prod.snd this) (congrArg Prod.fst this)
theorem ltC_swo : Go.Sort.SWO (ltOf candC) := by
  refine tri_ntrans (fun x => ?_) (fun x y z h1 h2 => ?_) (fun x y h1 h2 => ltC_tri h1 h2)
  · rw [ltC_eq]; exact lt2_irrefl _
  · rw [ltC_eq] at *; exact lt2_trans h1 h2
/-- The candidates, the soonest first. -/
def sortC (row : List Cand) : List Cand := row.mergeSort fun x y => !(ltOf candC) y x
theorem sortC_spec {v : Value} {row : List Cand} (hn : row.length < 4611686018427387904) : Spec Tryz.prog G 142 [v, .func (.func 143) #[] #[]] (OwnSl 53 2 row.length v (row.flatMap candV) :: F) fun u L' => L' = OwnSl 53 2 row.length v ((sortC row).flatMap candV) :: F := by
  have key := sortK_spec (P := Tryz.prog) (ρ := Tryz.sortCand_ren) (G := G) (F := F) (v := v) (enc := candV) (k := 2) (e := 53) (xs := row) Tryz.sortCand (fun w => run_isAgg_agg (n := 2) (by kernel_rfl)) (fun w => run_sizeOf (by kernel_rfl)) (fun _ => rfl) ?_ candC ltC_swo (fun x y => ltC_tri) 143 [] (by kernel_rfl) (by omega) ?_
  · exact key.mono fun _ _ h => h.2
  · intro x v hv
    simp only [List.mem_cons, List.not_mem_nil, or_false] at hv
    rcases hv with rfl | rfl <;> rfl
  · rintro W b C hW x y
    exact (sooner_spec x y).mono fun _ _ ⟨h1, _, _, _, h2⟩ => ⟨h1, by rw [h2]; simp⟩

theorem sortC_len (row : List Cand) : (sortC row).length = row.length := List.length_mergeSort row
theorem own_blk {w : World} {e sz n : Nat} {v : Value} {X : List Value} (hpos : 0 < n) (H : Sat G w (OwnSl e sz n v X :: L)) : ∃ z : Nat × Nat × List Value, (v = .slice (some ⟨z.1, 0, none⟩) n z.2.1 ∧ n ≤ z.2.1 ∧ X.length = n * sz ∧ (X ++ z.2.2).length = z.2.1 * sz) ∧
    Sat G w (Blk z.1 (.cells (X ++ z.2.2).toArray e (0, 0)) :: L) := by
  rcases sat_ownCases H with ⟨_, h2, _⟩ | ⟨b, cap, rest, h1, h2, h3, h4, h5⟩
  · omega
  · exact ⟨(b, cap, rest), ⟨h1, h2, h3, h4⟩, h5⟩
/-- What an offer leaves, and what it answers. -/
def Pl.offer (p : Pl) (x : Cand) : Pl × Bool :=
  let r := sortC (dropK p.row x.1 ++ [x])
  if (r.length : Int) ≤ p.most then ({ p with row := r }, true) else ({ p with row := r.take p.most.toNat }, match r[p.most.toNat]? with | some y => decide (y ≠ x) | none => true)
theorem offer_spec {x : Cand} (hn : p.row.length ≤ 1048576) (hm : 0 ≤ p.most) : Spec Tryz.prog G 95 [ptrV b, .agg (candV x).toArray] (PoolA b p :: F) fun v L' =>
    v = .bool (p.offer x).2 ∧ ∃ X Y, L' = X :: Y :: PoolA b (p.offer x).1 :: F := by
  obtain ⟨most, prow⟩ := p
  obtain ⟨m, rfl⟩ := Int.eq_ofNat_of_zero_le hm
  refine spec_of_run Tryz.func95 rfl rfl ?_
  refine run_seq ?_
  refine run_region ?_
  refine k_boxAgg rfl rfl ?_
  intro nb1
  refine k_val (ev_assign rfl) rfl ?_
  refine run_seq ?_
  refine run_seq ?_
  refine run_region ?_
  refine k_val (ev_move rfl) rfl ?_
  refine k_val (ev_eqNil rfl rfl (by kernel_rfl)) rfl ?_
  refine run_cond (t := false) rfl ?_
  refine run_skip ?_
  refine run_seq ?_
  refine run_region ?_
  refine k_val (ev_move rfl) rfl ?_
  refine k_val (ev_fieldAddr0 0 rfl (by kernel_rfl)) rfl ?_
  refine k_val (ev_load rfl (by kernel_rfl)) rfl ?_
  refine OpK.perm (List.Perm.swap _ _ _) ?_
  refine k_call rfl rfl (by kernel_rfl) (drop_spec (by omega)) ?_
  rintro _ _ rfl
  simp only at hn
  have hdl : (dropK prow x.1).length ≤ prow.length := List.length_filter_le _ _
  unfold Pl.offer
  generalize hd : dropK prow x.1 = row at *
  refine RunOps.exm (fun _ hw => sat_pool hw) ?_
  rintro ⟨base, cap⟩ -
  simp only
  refine run_seq ?_
  refine run_lazy (Blk b (.cells #[.int .i64 (m : Int), .slice base row.length cap] 95 (0, 0)) :: Blk nb1 (.cells (candV x).toArray 53 (0, 0)) :: F) (by kernel_rfl) ?_
  refine m_val 0 rfl (by kernel_rfl) (by kernel_rfl) (by kernel_rfl) (ev_move rfl) rfl ?_
  refine m_val 1 rfl (by kernel_rfl) (by kernel_rfl) (by kernel_rfl) (ev_move rfl) rfl ?_
  refine m_val 2 rfl (by kernel_rfl) (by kernel_rfl) (by kernel_rfl) (ev_nilCheck rfl) rfl ?_
  refine m_val 3 rfl (by kernel_rfl) (by kernel_rfl) (by kernel_rfl) (ev_fieldAddr0 1 rfl (by kernel_rfl)) rfl ?_
  refine m_val 4 rfl (by kernel_rfl) (by kernel_rfl) (by kernel_rfl) (ev_load rfl (by kernel_rfl)) rfl ?_
  refine m_val 5 rfl (by kernel_rfl) (by kernel_rfl) (by kernel_rfl) (ev_loadAllS 2 rfl rfl (by kernel_rfl)) rfl ?_
  refine m_loud1 6 (by kernel_rfl) rfl (.inr fun _ hw => sat_pick [0, 1] 1 hw) ?_
  refine k_buildSlice1 (e := 53) (B := 24) (z := #[.string ByteArray.empty, .int .u64 0]) rfl ⟨by kernel_rfl, by kernel_rfl, by kernel_rfl, by kernel_rfl⟩ rfl (by decide) (by decide) rfl ?_
  intro nb2
  refine m_loud1 7 (by kernel_rfl) rfl (.inr fun _ hw => sat_pick [1, 2] 2 hw) ?_
  refine k_append1 (e := 53) (B := 24) (z := #[.string ByteArray.empty, .int .u64 0]) 2 rfl rfl ⟨by kernel_rfl, by kernel_rfl, by kernel_rfl, by kernel_rfl⟩ rfl (by kernel_rfl) rfl rfl (by decide) (by omega) rfl ?_
  intro nv1 hnv1
  refine m_val 8 rfl (by kernel_rfl) (by kernel_rfl) (by kernel_rfl) (ev_nilCheck rfl) rfl ?_
  refine m_val 9 rfl (by kernel_rfl) (by kernel_rfl) (by kernel_rfl) (ev_fieldAddr0 1 rfl (by kernel_rfl)) rfl ?_
  refine m_loud1 10 (by kernel_rfl) rfl (.inr fun _ hw => sat_pick [2, 2] 2 hw) ?_
  refine k_store rfl rfl rfl (by assumption) (by kernel_rfl) ?_
  refine m_end (by kernel_rfl) (.inl (by kernel_rfl)) ?_
  refine run_seq ?_
  refine run_region ?_
  refine k_val (ev_move rfl) rfl ?_
  refine k_val (ev_nilCheck rfl) rfl ?_
  refine k_val (ev_fieldAddr0 1 rfl (by kernel_rfl)) rfl ?_
  refine k_val (ev_load rfl (by kernel_rfl)) rfl ?_
  have hX : row.flatMap candV ++ (Value.agg (candV x).toArray).cells.toList = (row ++ [x]).flatMap candV := by
    rw [List.flatMap_append]; rfl
  have hlen1 : (row ++ [x]).length = row.length + 1 := by simp
  rw [hX, ← hlen1]
  generalize hrow1 : row ++ [x] = row1 at *
  refine k_call rfl rfl (by kernel_rfl) (sortC_spec (by omega)) ?_
  rintro _ _ rfl
  have hlen2 := sortC_len row1
  rw [← hlen2]
  generalize sortC row1 = r at *
  refine RunOps.exm (fun _ hw => own_blk (by omega) hw) ?_
  rintro ⟨b', cap1, rest⟩ ⟨rfl, g1, g2, g3⟩
  simp only at g1 g2 g3 ⊢
  clear hX hnv1
  generalize hCe : r.flatMap candV ++ rest = Cl at *
  by_cases hle : (r.length : Int) ≤ (m : Int)
  · simp only [if_pos hle]
    refine run_seq ?_
    refine run_seq ?_
    refine run_quiet (by kernel_rfl) (by kernel_rfl) ?_
    refine q_val (ev_move rfl) rfl ?_
    refine q_val (ev_nilCheck rfl) rfl ?_
    refine q_val (ev_fieldAddr0 1 rfl (by kernel_rfl)) rfl ?_
    refine q_val (ev_load rfl (by kernel_rfl)) rfl ?_
    refine q_val (ev_lenSlice (e := 53) rfl (by kernel_rfl)) rfl ?_
    refine q_val (ev_move rfl) rfl ?_
    refine q_val (ev_nilCheck rfl) rfl ?_
    refine q_val (ev_fieldAddr0 0 rfl (by kernel_rfl)) rfl ?_
    refine q_val (ev_load rfl (by kernel_rfl)) rfl ?_
    refine q_val (ev_bT (ev_le rfl rfl) (by first | assumption | omega)) rfl ?_
    refine q_nil ?_
    refine run_cond (t := true) rfl ?_
    refine run_seq ?_
    refine run_region ?_
    refine k_val (ev_assign rfl) rfl ?_
    refine Run.mem (L' := Blk nb2 (.cells (Value.agg (candV x).toArray).cells 53 (0, 0)) :: Blk nb1 (.cells (candV x).toArray 53 (0, 0)) :: PoolA b ⟨m, r⟩ :: F) (ret_spec Tryz.func95 rfl rfl ⟨rfl, _, _, rfl⟩) (fun w hw => ?_)
    have h1 := sat_ownBlk g1 g2 (by rw [hCe]; exact g3) (by rw [hCe]; exact hw)
    have h2 : Sat G w (PoolA b ⟨m, r⟩ :: Blk nb2 (.cells (Value.agg (candV x).toArray).cells 53 (0, 0)) :: Blk nb1 (.cells (candV x).toArray 53 (0, 0)) :: F) := by
      refine sat_mkPool (p := ⟨m, r⟩) (v := .slice (some ⟨b', 0, none⟩) r.length cap1) ?_
      clear hw
      revert w; exact fun _ hw => sat_pick [2, 0, 0, 0] 0 hw
    clear hw h1
    revert w; exact fun _ hw => sat_pick [1, 1, 0] 0 hw
  · simp only [if_neg hle]
    have hlt : m < r.length := by omega
    obtain ⟨y, hy⟩ : ∃ y, r[m]? = some y := ⟨_, List.getElem?_eq_getElem hlt⟩
    have hrow := row_elem (enc := candV) (k := 2) (fun _ => rfl) (by decide) (row_get (rest := rest)) hy
    rw [hCe] at hrow
    simp only [Int.toNat_natCast, hy]
    refine run_seq ?_
    refine run_seq ?_
    refine run_quiet (by kernel_rfl) (by kernel_rfl) ?_
    refine q_val (ev_move rfl) rfl ?_
    refine q_val (ev_nilCheck rfl) rfl ?_
    refine q_val (ev_fieldAddr0 1 rfl (by kernel_rfl)) rfl ?_
    refine q_val (ev_load rfl (by kernel_rfl)) rfl ?_
    refine q_val (ev_lenSlice (e := 53) rfl (by kernel_rfl)) rfl ?_
    refine q_val (ev_move rfl) rfl ?_
    refine q_val (ev_nilCheck rfl) rfl ?_
    refine q_val (ev_fieldAddr0 0 rfl (by kernel_rfl)) rfl ?_
    refine q_val (ev_load rfl (by kernel_rfl)) rfl ?_
    refine q_val (ev_bF (ev_le rfl rfl) (by first | assumption | omega)) rfl ?_
    refine q_nil ?_
    refine run_cond (t := false) rfl ?_
    refine run_skip ?_
    refine run_seq ?_
    refine run_lazyS (by kernel_rfl) ?_
    refine m_val 0 rfl (by kernel_rfl) (by kernel_rfl) (by kernel_rfl) (ev_move rfl) rfl ?_
    refine m_val 1 rfl (by kernel_rfl) (by kernel_rfl) (by kernel_rfl) (ev_nilCheck rfl) rfl ?_
    refine m_val 2 rfl (by kernel_rfl) (by kernel_rfl) (by kernel_rfl) (ev_fieldAddr0 1 rfl (by kernel_rfl)) rfl ?_
    refine m_val 3 rfl (by kernel_rfl) (by kernel_rfl) (by kernel_rfl) (ev_load rfl (by kernel_rfl)) rfl ?_
    refine m_val 4 rfl (by kernel_rfl) (by kernel_rfl) (by kernel_rfl) (ev_move rfl) rfl ?_
    refine m_val 5 rfl (by kernel_rfl) (by kernel_rfl) (by kernel_rfl) (ev_nilCheck rfl) rfl ?_
    refine m_val 6 rfl (by kernel_rfl) (by kernel_rfl) (by kernel_rfl) (ev_fieldAddr0 0 rfl (by kernel_rfl)) rfl ?_
    refine m_val 7 rfl (by kernel_rfl) (by kernel_rfl) (by kernel_rfl) (ev_load rfl (by kernel_rfl)) rfl ?_
    refine m_val 8 rfl (by kernel_rfl) (by kernel_rfl) (by kernel_rfl) (ev_indexAddrO (e := 53) 2 rfl rfl (by first | assumption | omega) (by kernel_rfl) (by kernel_rfl)) rfl ?_
    refine m_val 9 rfl (by kernel_rfl) (by kernel_rfl) (by kernel_rfl) (ev_loadRow (i := m) (off := 0 + m * 2) 2 rfl (Nat.zero_add _) hrow (by kernel_rfl)) rfl ?_
    refine m_loud1 10 (by kernel_rfl) rfl (.inr fun _ hw => sat_pick [0, 0, 0, 0] 0 hw) ?_
    refine k_alloc (#[.string ByteArray.empty, .int .u64 0]) (by kernel_rfl) rfl ?_
    intro nb3
    refine m_loud1 11 (by kernel_rfl) rfl (.inr fun _ hw => sat_pick [1, 1, 1, 1] 1 hw) ?_
    refine k_storeAllS 2 rfl rfl rfl rfl rfl (by kernel_rfl) ?_
    refine m_end (by kernel_rfl) (.inl (by kernel_rfl)) ?_
    refine run_seq ?_
    refine run_tail 12 (by kernel_rfl) (by kernel_rfl) ?_
    refine q_val (ev_move rfl) rfl ?_
    refine q_val (ev_move rfl) rfl ?_
    refine q_val (ev_nilCheck rfl) rfl ?_
    refine q_val (ev_fieldAddr0 1 rfl (by kernel_rfl)) rfl ?_
    refine q_val (ev_load rfl (by kernel_rfl)) rfl ?_
    refine q_val (ev_move rfl) rfl ?_
    refine q_val (ev_nilCheck rfl) rfl ?_
    refine q_val (ev_fieldAddr0 0 rfl (by kernel_rfl)) rfl ?_
    refine q_val (ev_load rfl (by kernel_rfl)) rfl ?_
    refine q_val (ev_sliceB (e := 53) 2 rfl rfl ⟨_, rfl⟩ (by omega) (by omega) (by omega) (by kernel_rfl) (by kernel_rfl)) rfl ?_
    refine q_val (ev_nilCheck rfl) rfl ?_
    refine q_val (ev_fieldAddr0 1 rfl (by kernel_rfl)) rfl ?_
    refine q_nil ?_
    refine k_store rfl rfl rfl rfl (by kernel_rfl) ?_
    refine run_seq ?_
    refine run_region ?_
    refine k_val (ev_loadAllS 2 rfl rfl (by kernel_rfl)) rfl ?_
    refine k_val (ev_loadAllS 2 rfl rfl (by kernel_rfl)) rfl ?_
    refine k_val (ev_neCand rfl (a := y) (c := x) rfl rfl) rfl ?_
    refine k_val (ev_assign rfl) rfl ?_
    have htl : (r.take m).length = m := by rw [List.length_take]; omega
    have htf : ((r.take m).flatMap candV).length = m * 2 := by rw [flatMap_len (enc := candV) (k := 2) (fun _ => rfl), htl]
    have hsplit : Cl = (r.take m).flatMap candV ++ ((r.drop m).flatMap candV ++ rest) := by
      rw [← List.append_assoc, ← List.flatMap_append, List.take_append_drop, hCe]
    refine Run.mem (L' := Blk nb2 (.cells (Value.agg (candV x).toArray).cells 53 (0, 0)) :: Blk nb1 (.cells (candV x).toArray 53 (0, 0)) :: PoolA b ⟨m, r.take m⟩ :: F) (ret_spec Tryz.func95 rfl rfl ⟨rfl, _, _, rfl⟩) (fun w hw => ?_)
    have hw' : Sat G w (Blk b' (.cells ((r.take m).flatMap candV ++ ((r.drop m).flatMap candV ++ rest)).toArray 53 (0, 0)) :: Blk nb2 (.cells (Value.agg (candV x).toArray).cells 53 (0, 0)) :: Blk b (.cells #[.int .i64 m, .slice (some ⟨b', 0, none⟩) m cap1] 95 (0, 0)) :: Blk nb1 (.cells (candV x).toArray 53 (0, 0)) :: F) := by
      rw [← hsplit]; exact hw.tail
    have h1 := sat_ownBlk (n := m) (cap := cap1) (by omega) htf (by rw [← hsplit]; exact g3) hw'
    have h2 : Sat G w (PoolA b ⟨m, r.take m⟩ :: Blk nb2 (.cells (Value.agg (candV x).toArray).cells 53 (0, 0)) :: Blk nb1 (.cells (candV x).toArray 53 (0, 0)) :: F) := by
      refine sat_mkPool (p := ⟨m, r.take m⟩) (v := .slice (some ⟨b', 0, none⟩) m cap1) ?_
      simp only
      rw [htl]
      clear hw hw'
      revert w; exact fun _ hw => sat_pick [2, 0, 0, 0] 0 hw
    clear hw hw' h1
    revert w; exact fun _ hw => sat_pick [1, 1, 0] 0 hw
end
end Go.PS
