/-
  The pool of candidates, walked.
  Conditions: each contract's own.
-/
import Derived.Test.YtopkabhgkhjecaaGreatSpaceZ
import Derived.Test.YtopkabhgkhjecaaGreatRows2
namespace Go.PS
open Go Go.Proofs Go.Shelf
set_option maxRecDepth 10000

abbrev Cand := ByteArray × Int
abbrev candV (x : Cand) : List Value := [.string x.1, .int .u64 x.2]
structure Pl where
  most : Int
  row : List Cand
/-- A pool. -/
def PoolA (b : Nat) (p : Pl) : HP := fun h => ∃ v, Star [Blk b (.cells #[.int .i64 p.most, v] 95 (0, 0)), OwnSl 53 2 p.row.length v (p.row.flatMap candV)] h
theorem own_val {G w : World} {e sz n : Nat} {v : Value} {X : List Value} {L : List HP} (H : Sat G w (OwnSl e sz n v X :: L)) : ∃ z : Option Addr × Nat, v = .slice z.1 n z.2 ∧ Sat G w (OwnSl e sz n v X :: L) := by
  rcases sat_ownCases H with ⟨h1, h2, _⟩ | ⟨b, cap, rest, h1, _⟩
  · exact ⟨(none, 0), by rw [h1, h2], H⟩
  · exact ⟨(_, cap), h1, H⟩
theorem sat_pool {G w : World} {L : List HP} {b : Nat} {p : Pl} (H : Sat G w (PoolA b p :: L)) : ∃ z : Option Addr × Nat, True ∧ Sat G w (Blk b (.cells #[.int .i64 p.most, .slice z.1 p.row.length z.2] 95 (0, 0)) :: OwnSl 53 2 p.row.length (.slice z.1 p.row.length z.2) (p.row.flatMap candV) :: L) := by
  unfold PoolA at H
  obtain ⟨v, H⟩ := H.ex
  have h1 := H.ungroup
  obtain ⟨z, rfl, h2⟩ := own_val h1.swap
  exact ⟨z, trivial, h2.swap⟩
theorem sat_mkPool {G w : World} {L : List HP} {b : Nat} {p : Pl} {v : Value} (H : Sat G w (Blk b (.cells #[.int .i64 p.most, v] 95 (0, 0)) :: OwnSl 53 2 p.row.length v (p.row.flatMap candV) :: L)) : Sat G w (PoolA b p :: L) :=
  (Sat.group (L := [_, _]) H).weak fun _ h => ⟨v, h⟩

section
variable {G : World} {L F : List HP} {b : Nat} {p : Pl}

theorem pnew_spec (most : Int) : Spec Tryz.prog G 9 [.int .i64 most] L fun v L' =>
    (most < 1 ∨ 16 < most) ∧ v = .tuple #[.pointer none, .int .i64 3] ∧ L' = L ∨ ¬ (most < 1 ∨ 16 < most) ∧ ∃ b, v = .tuple #[ptrV b, .int .i64 0] ∧ L' = PoolA b ⟨most, []⟩ :: L := by
  refine spec_of_run Tryz.func9 rfl rfl ?_
  by_cases h1 : most < 1
  · refine run_seq ?_
    refine run_region ?_
    refine k_val (ev_assign rfl) rfl ?_
    refine k_val (ev_assign rfl) rfl ?_
    refine run_seq ?_
    refine run_seq ?_
    refine run_region ?_
    refine k_val (ev_move rfl) rfl ?_
    refine k_val (ev_bT (ev_lt rfl rfl) (by first | assumption | omega)) rfl ?_
    refine k_val (ev_move rfl) rfl ?_
    refine k_skip rfl rfl rfl rfl ?_
    refine k_skip rfl rfl rfl rfl ?_
    refine k_val (ev_pickT rfl rfl) rfl ?_
    refine run_cond (t := true) rfl ?_
    refine run_seq ?_
    refine run_region ?_
    refine k_val (ev_assign rfl) rfl ?_
    refine k_val (ev_assign rfl) rfl ?_
    exact ret_spec Tryz.func9 rfl rfl (.inl ⟨.inl h1, rfl, rfl⟩)
  by_cases h2 : 16 < most
  · refine run_seq ?_
    refine run_region ?_
    refine k_val (ev_assign rfl) rfl ?_
    refine k_val (ev_assign rfl) rfl ?_
    refine run_seq ?_
    refine run_seq ?_
    refine run_region ?_
    refine k_val (ev_move rfl) rfl ?_
    refine k_val (ev_bF (ev_lt rfl rfl) (by first | assumption | omega)) rfl ?_
    refine k_val (ev_move rfl) rfl ?_
    refine k_guard rfl rfl rfl ?_
    refine k_val (ev_move rfl) rfl ?_
    refine k_guard rfl rfl rfl ?_
    refine k_val (ev_bT (ev_gt rfl rfl) (by first | assumption | omega)) rfl ?_
    refine k_val (ev_pickF rfl rfl) rfl ?_
    refine run_cond (t := true) rfl ?_
    refine run_seq ?_
    refine run_region ?_
    refine k_val (ev_assign rfl) rfl ?_
    refine k_val (ev_assign rfl) rfl ?_
    exact ret_spec Tryz.func9 rfl rfl (.inl ⟨.inr h2, rfl, rfl⟩)
  refine run_seq ?_
  refine run_region ?_
  refine k_val (ev_assign rfl) rfl ?_
  refine k_val (ev_assign rfl) rfl ?_
  refine run_seq ?_
  refine run_seq ?_
  refine run_region ?_
  refine k_val (ev_move rfl) rfl ?_
  refine k_val (ev_bF (ev_lt rfl rfl) (by first | assumption | omega)) rfl ?_
  refine k_val (ev_move rfl) rfl ?_
  refine k_guard rfl rfl rfl ?_
  refine k_val (ev_move rfl) rfl ?_
  refine k_guard rfl rfl rfl ?_
  refine k_val (ev_bF (ev_gt rfl rfl) (by first | assumption | omega)) rfl ?_
  refine k_val (ev_pickF rfl rfl) rfl ?_
  refine run_cond (t := false) rfl ?_
  refine run_skip ?_
  refine run_seq ?_
  refine run_region ?_
  refine k_val (ev_move rfl) rfl ?_
  refine k_val (ev_build1 [.int .i64 0, .slice none 0 0] [0] (by kernel_rfl) (by kernel_rfl) rfl rfl rfl) rfl ?_
  refine k_boxAgg rfl rfl ?_
  intro nb1
  refine k_val (ev_assign rfl) rfl ?_
  refine k_val (ev_assign rfl) rfl ?_
  refine Run.mem (L' := PoolA nb1 ⟨most, []⟩ :: L) (ret_spec Tryz.func9 rfl rfl (.inr ⟨by omega, _, rfl, rfl⟩)) (fun w hw => sat_mkPool (v := .slice none 0 0) ?_)
  exact (sat_ownNil (e := 53) (sz := 2) hw).swap

theorem dropfn_spec (x : Cand) {pk : Nat} {key : ByteArray} [Reads G L pk #[.string key]] : Spec Tryz.prog G 145 [.agg (candV x).toArray, ptrV pk] L fun v L' => v = .bool (decide (x.1 = key)) ∧ ∃ X, L' = X :: L := by
  refine spec_of_run Tryz.func145 rfl rfl ?_
  refine run_seq ?_
  refine run_region ?_
  refine k_boxAgg rfl rfl ?_
  intro nb1
  refine k_val (ev_assign rfl) rfl ?_
  refine run_seq ?_
  refine run_region ?_
  refine k_val (ev_fieldAddr0 0 rfl (by kernel_rfl)) rfl ?_
  refine k_val (ev_load rfl (by kernel_rfl)) rfl ?_
  refine k_val (ev_load rfl (by kernel_rfl)) rfl ?_
  refine k_val (ev_eqS rfl rfl) rfl ?_
  refine k_val (ev_assign rfl) rfl ?_
  exact ret_spec Tryz.func145 rfl rfl ⟨rfl, _, rfl⟩

/-- The key's place, if it has one. -/
theorem idx_spec {row : List Cand} {base : Option Addr} {cap pk : Nat} {key : ByteArray} {M : List HP} (hM : (base = none ∧ row.length = 0 ∧ cap = 0) ∨ ∃ b C, base = some ⟨b, 0, none⟩ ∧ (∀ i, i < (row.flatMap candV).length → C[i]? = (row.flatMap candV)[i]?) ∧ C.size = cap * 2 ∧ ∀ L, Reads G (M ++ L) b C)
    (hn : row.length ≤ 1099511627776) :
    Spec Tryz.prog G 197 [.slice base row.length cap, .func (.func 145) #[] #[ptrV pk]] (M ++ (Blk pk (.cells #[.string key] 9 (0, 0)) :: F)) fun v L' =>
      v = .int .i64 (match row.findIdx? (fun x => decide (x.1 = key)) with | some i => (i : Int) | none => -1) ∧ L' = M ++ (Blk pk (.cells #[.string key] 9 (0, 0)) :: F) := by
  refine spec_of_run Tryz.func197 rfl rfl ?_
  refine run_seq ?_
  refine run_region ?_
  refine k_val (ev_assign rfl) rfl ?_
  refine run_seq ?_
  refine run_seq ?_
  refine run_region ?_
  refine k_val (ev_move rfl) rfl ?_
  refine k_val (ev_lenSlice (e := 53) rfl (by kernel_rfl)) rfl ?_
  refine k_val (ev_move rfl) rfl ?_
  refine run_while (ι := Nat) (κ := Unit) (fun i => row.length - i) (fun i => i ≤ row.length ∧ ∀ x ∈ row.take i, x.1 ≠ key)
    (fun i => [(0, .slice base row.length cap), (1, .func (.func 145) #[] #[ptrV pk]), (7, .int .i64 row.length), (8, .int .i64 i)]) (fun _ => M ++ (Blk pk (.cells #[.string key] 9 (0, 0)) :: F))
    (fun _ => ∀ x ∈ row, x.1 ≠ key) (fun _ => []) (fun _ => M ++ (Blk pk (.cells #[.string key] 9 (0, 0)) :: F)) 0 ⟨Nat.zero_le _, by simp⟩ ⟨rfl, rfl, rfl, rfl, trivial⟩ rfl ?_ ?_
  · rintro i ⟨hi, hx⟩ next out
    by_cases hlt : i < row.length
    · rcases hM with ⟨_, h, _⟩ | ⟨b', C, rfl, hC, hCs, hM⟩
      · omega
      obtain ⟨y, hy⟩ : ∃ y, row[i]? = some y := ⟨_, List.getElem?_eq_getElem hlt⟩
      have hrow := row_elem (enc := candV) (k := 2) (fun _ => rfl) (by decide) hC hy
      haveI := hM (Blk pk (.cells #[.string key] 9 (0, 0)) :: F)
      refine run_seq ?_
      refine run_region ?_
      refine k_val (ev_bT (ev_lt rfl rfl) (by first | assumption | omega)) rfl ?_
      refine run_seq ?_
      refine run_cond (t := true) rfl ?_
      refine run_skip ?_
      refine run_seq ?_
      refine run_block ?_
      refine run_seq ?_
      refine run_region ?_
      refine k_val (ev_move rfl) rfl ?_
      refine k_val (ev_assign rfl) rfl ?_
      refine run_seq ?_
      refine run_region ?_
      refine k_val (ev_move rfl) rfl ?_
      refine k_val (ev_move rfl) rfl ?_
      refine k_val (ev_move rfl) rfl ?_
      refine k_val (ev_indexAddrO (e := 53) 2 rfl rfl (by first | assumption | omega) (by kernel_rfl) (by kernel_rfl)) rfl ?_
      refine k_val (ev_loadRow (i := i) (off := 0 + i * 2) 2 rfl (Nat.zero_add _) hrow (by kernel_rfl)) rfl ?_
      haveI : Reads G (M ++ (Blk pk (.cells #[.string key] 9 (0, 0)) :: F)) pk #[.string key] := reads_append M inferInstance
      refine k_callF rfl rfl rfl (specV_func (us := []) (cap := [ptrV pk]) (by kernel_rfl) (dropfn_spec y)) ?_
      rintro _ _ ⟨rfl, X, rfl⟩
      refine RunOps.mem (fun _ hw => hw.tail) ?_
      have hyi : row[i] = y := (List.getElem?_eq_some_iff.1 hy).2
      by_cases hk : y.1 = key
      · refine run_ifT rfl (by first | assumption | omega) ?_
        refine run_seq ?_
        refine run_region ?_
        refine k_val (ev_move rfl) rfl ?_
        refine k_val (ev_assign rfl) rfl ?_
        refine ret_spec Tryz.func197 rfl rfl ⟨?_, rfl⟩
        have : row.findIdx? (fun x => decide (x.1 = key)) = some i := by
          rw [List.findIdx?_eq_some_iff_getElem]
          refine ⟨hlt, by rw [hyi]; simpa using hk, fun j hj => ?_⟩
          have := hx row[j] (List.mem_take_iff_getElem.2 ⟨j, by omega, rfl⟩)
          simpa using this
        rw [this]; rfl
      · refine run_ifF rfl (by first | assumption | omega) ?_
        refine run_skip ?_
        refine run_inBlock ?_
        refine run_region ?_
        refine k_val (ev_addN (n := 1) rfl rfl rfl rfl (by omega)) rfl ?_
        refine k_val (ev_move rfl) rfl ?_
        refine next (i + 1) _ (by omega) ⟨by omega, ?_⟩ ?_
        · intro x hm
          rw [List.take_succ_eq_append_getElem hlt, hyi] at hm
          rcases List.mem_append.1 hm with hm | hm
          · exact hx x hm
          · rw [List.mem_singleton.1 hm]; exact hk
        · exact ⟨rfl, rfl, rfl, rfl, trivial⟩
    · have hie : i = row.length := by omega
      refine run_seq ?_
      refine run_region ?_
      refine k_val (ev_bF (ev_lt rfl rfl) (by first | assumption | omega)) rfl ?_
      refine run_seq ?_
      refine run_cond (t := false) rfl ?_
      refine run_exit rfl (out () _ ?_ trivial)
      rw [hie, List.take_length] at hx
      exact hx
  · intro _ hx
    refine run_seq ?_
    refine run_region ?_
    refine k_val (ev_assign rfl) rfl ?_
    refine ret_spec Tryz.func197 rfl rfl ⟨?_, rfl⟩
    have : row.findIdx? (fun x => decide (x.1 = key)) = none := by
      rw [List.findIdx?_eq_none_iff]
      intro x hm
      simpa using hx x hm
    rw [this]; rfl

/-- The candidates but one key's. -/
def dropK (row : List Cand) (key : ByteArray) : List Cand := row.filter fun x => decide (x.1 ≠ key)
theorem dropK_none {row : List Cand} {key : ByteArray} (h : row.findIdx? (fun x => decide (x.1 = key)) = none) : dropK row key = row := by
  unfold dropK
  rw [List.filter_eq_self]
  rw [List.findIdx?_eq_none_iff] at h
  intro x hx
  have := h x hx
  simpa using this

theorem delfn_spec {row : List Cand} {v : Value} {pk : Nat} {key : ByteArray} (hn : row.length ≤ 1099511627776) :
    Spec Tryz.prog G 144 [v, .func (.func 145) #[] #[ptrV pk]] (OwnSl 53 2 row.length v (row.flatMap candV) :: Blk pk (.cells #[.string key] 9 (0, 0)) :: F) fun u L' =>
      L' = OwnSl 53 2 (dropK row key).length u ((dropK row key).flatMap candV) :: Blk pk (.cells #[.string key] 9 (0, 0)) :: F := by
  refine spec_own (args := fun v => [v, .func (.func 145) #[] #[ptrV pk]]) ?_ ?_
  · intro h0 _
    have hrow : row = [] := List.length_eq_zero_iff.1 h0
    subst hrow
    refine spec_of_run Tryz.func144 rfl rfl ?_
    refine run_seq ?_
    refine run_region ?_
    refine k_val (ev_assign rfl) rfl ?_
    refine run_seq ?_
    refine run_region ?_
    refine k_val (ev_move rfl) rfl ?_
    refine k_val (ev_move rfl) rfl ?_
    refine k_call rfl rfl (by kernel_rfl) (idx_spec (M := []) (.inl ⟨rfl, rfl, rfl⟩) hn) ?_
    rintro _ _ ⟨rfl, rfl⟩
    refine k_val (ev_assign rfl) rfl ?_
    refine run_seq ?_
    refine run_seq ?_
    refine run_region ?_
    refine k_val (ev_move rfl) rfl ?_
    refine k_val (ev_eqI rfl rfl) rfl ?_
    refine run_cond (t := true) rfl ?_
    refine run_seq ?_
    refine run_region ?_
    refine k_val (ev_move rfl) rfl ?_
    refine k_val (ev_assign rfl) rfl ?_
    exact Run.mem (ret_spec Tryz.func144 rfl rfl rfl) (fun w hw => sat_ownNil hw)
  intro b' cap rest h1 h2 h3
  have hidx : ∀ L, Reads G ([Blk b' (.cells (row.flatMap candV ++ rest).toArray 53 (0, 0))] ++ L) b' (row.flatMap candV ++ rest).toArray := fun L => reads_mem (T := 53) (fz := (0, 0)) (by simp)
  refine spec_of_run Tryz.func144 rfl rfl ?_
  refine run_seq ?_
  refine run_region ?_
  refine k_val (ev_assign rfl) rfl ?_
  refine run_seq ?_
  refine run_region ?_
  refine k_val (ev_move rfl) rfl ?_
  refine k_val (ev_move rfl) rfl ?_
  refine k_call rfl rfl (by kernel_rfl) (idx_spec (M := [Blk b' (.cells (row.flatMap candV ++ rest).toArray 53 (0, 0))]) (.inr ⟨b', _, rfl, row_get, by simpa using h3, hidx⟩) hn) ?_
  rintro _ _ ⟨rfl, rfl⟩
  cases hf : row.findIdx? (fun x => decide (x.1 = key)) with
  | none =>
    refine k_val (ev_assign rfl) rfl ?_
    refine run_seq ?_
    refine run_seq ?_
    refine run_region ?_
    refine k_val (ev_move rfl) rfl ?_
    refine k_val (ev_eqI rfl rfl) rfl ?_
    refine run_cond (t := true) rfl ?_
    refine run_seq ?_
    refine run_region ?_
    refine k_val (ev_move rfl) rfl ?_
    refine k_val (ev_assign rfl) rfl ?_
    refine Run.mem (ret_spec Tryz.func144 rfl rfl ?_) (fun w hw => sat_ownBlk h1 h2 h3 hw)
    rw [dropK_none hf]; rfl
  | some i0 =>
    simp only
    rw [List.findIdx?_eq_some_iff_getElem] at hf
    obtain ⟨hi0, hk0, hb0⟩ := hf
    have hpre : dropK (row.take i0) key = row.take i0 := by
      unfold dropK
      rw [List.filter_eq_self]
      intro x hx
      obtain ⟨j, hj, rfl⟩ := List.mem_take_iff_getElem.1 hx
      have := hb0 j (by omega)
      simpa using this
    have hdrop1 : dropK (row.take (i0 + 1)) key = row.take i0 := by
      have hk : decide (row[i0].1 ≠ key) = false := by simpa using hk0
      rw [List.take_succ_eq_append_getElem hi0]
      unfold dropK at hpre ⊢
      rw [List.filter_append, hpre, List.filter_cons, hk]
      simp
    refine k_val (ev_assign rfl) rfl ?_
    refine run_seq ?_
    refine run_seq ?_
    refine run_region ?_
    refine k_val (ev_move rfl) rfl ?_
    refine k_val (ev_bF (ev_eqI rfl rfl) (by first | assumption | omega)) rfl ?_
    refine run_cond (t := false) rfl ?_
    refine run_skip ?_
    refine run_seq ?_
    refine run_seq ?_
    refine run_region ?_
    refine k_val (ev_move rfl) rfl ?_
    refine k_val (ev_addN (n := 1) rfl rfl rfl rfl (by omega)) rfl ?_
    refine k_val (ev_assign rfl) rfl ?_
    refine run_while (ι := Nat × List Cand) (κ := List Cand) (fun z => row.length - z.1) (fun z => i0 < z.1 ∧ z.1 ≤ row.length ∧ z.2.length = row.length ∧ z.2.take (dropK (row.take z.1) key).length = dropK (row.take z.1) key ∧ z.2.drop z.1 = row.drop z.1)
      (fun z => [(0, .slice (some ⟨b', 0, none⟩) row.length cap), (1, .func (.func 145) #[] #[ptrV pk]), (5, .int .i64 (dropK (row.take z.1) key).length), (6, .int .i64 z.1)])
      (fun z => Blk b' (.cells (z.2.flatMap candV ++ rest).toArray 53 (0, 0)) :: Blk pk (.cells #[.string key] 9 (0, 0)) :: F)
      (fun zs => zs.length = row.length ∧ zs.take (dropK row key).length = dropK row key) (fun _ => [(0, .slice (some ⟨b', 0, none⟩) row.length cap), (5, .int .i64 (dropK row key).length)])
      (fun zs => Blk b' (.cells (zs.flatMap candV ++ rest).toArray 53 (0, 0)) :: Blk pk (.cells #[.string key] 9 (0, 0)) :: F)
      (i0 + 1, row) ⟨by simp, by simp only; omega, rfl, ?_, rfl⟩ ?_ rfl ?_ ?_
    · simp only
      rw [hdrop1, List.length_take, Nat.min_eq_left (by omega)]
    · simp only
      rw [hdrop1, List.length_take, Nat.min_eq_left (by omega)]
      exact ⟨rfl, rfl, rfl, rfl, trivial⟩
    · rintro ⟨j, zs⟩ ⟨g1, g2, g3, g4, g5⟩ next out
      simp only at g1 g2 g3 g4 g5 ⊢
      have hml : (dropK (row.take j) key).length ≤ j := by
        refine Nat.le_trans (List.length_filter_le _ _) ?_
        rw [List.length_take]; omega
      generalize hm : dropK (row.take j) key = kept at *
      by_cases hlt : j < row.length
      · obtain ⟨y, hy⟩ : ∃ y, row[j]? = some y := ⟨_, List.getElem?_eq_getElem hlt⟩
        have hyj : row[j] = y := (List.getElem?_eq_some_iff.1 hy).2
        have hzy : zs[j]? = some y := by
          have := congrArg (·[0]?) g5
          simp only [List.getElem?_drop, Nat.add_zero] at this
          rw [this, hy]
        have hrow := row_elem (enc := candV) (k := 2) (fun _ => rfl) (by decide) (row_get (rest := rest)) hzy
        have hdj : zs.drop (j + 1) = row.drop (j + 1) := by
          have := congrArg (List.drop 1) g5
          simpa [List.drop_drop, Nat.add_comm] using this
        refine run_seq ?_
        refine run_seq ?_
        refine run_region ?_
        refine k_val (ev_move rfl) rfl ?_
        refine k_val (ev_move rfl) rfl ?_
        refine k_val (ev_lenSlice (e := 53) rfl (by kernel_rfl)) rfl ?_
        refine k_val (ev_bT (ev_lt rfl rfl) (by first | assumption | omega)) rfl ?_
        refine run_cond (t := true) rfl ?_
        refine run_skip ?_
        refine run_seq ?_
        refine run_block ?_
        refine run_seq ?_
        refine run_region ?_
        refine k_val (ev_move rfl) rfl ?_
        refine k_val (ev_move rfl) rfl ?_
        refine k_val (ev_indexAddrO (e := 53) 2 rfl rfl (by first | assumption | omega) (by kernel_rfl) (by kernel_rfl)) rfl ?_
        refine k_val (ev_loadRow (i := j) (off := 0 + j * 2) 2 rfl (Nat.zero_add _) hrow (by kernel_rfl)) rfl ?_
        refine k_alloc (#[.string ByteArray.empty, .int .u64 0]) (by kernel_rfl) rfl ?_
        intro nb1
        refine k_storeAllS 2 rfl rfl rfl rfl rfl (by kernel_rfl) ?_
        refine run_seq ?_
        refine run_region ?_
        refine k_val (ev_move rfl) rfl ?_
        refine k_val (ev_loadAllS 2 rfl rfl (by kernel_rfl)) rfl ?_
        refine k_callF rfl rfl rfl (specV_func (us := []) (cap := [ptrV pk]) (by kernel_rfl) (dropfn_spec y)) ?_
        rintro _ _ ⟨rfl, X, rfl⟩
        refine RunOps.mem (fun _ hw => hw.tail) ?_
        by_cases hk : y.1 = key
        · have hd : dropK (row.take (j + 1)) key = kept := by
            rw [← hm, List.take_succ_eq_append_getElem hlt, hyj]
            unfold dropK
            rw [List.filter_append]
            simp [hk]
          rw [decide_eq_true hk]
          refine k_val (ev_not rfl) rfl ?_
          refine run_cond (t := false) rfl ?_
          refine run_skip ?_
          refine run_inBlock ?_
          refine run_region ?_
          refine k_val (ev_move rfl) rfl ?_
          refine k_val (ev_addN (n := 1) rfl rfl rfl rfl (by omega)) rfl ?_
          refine k_val (ev_assign rfl) rfl ?_
          refine Run.mem (L' := Blk b' (.cells (zs.flatMap candV ++ rest).toArray 53 (0, 0)) :: Blk pk (.cells #[.string key] 9 (0, 0)) :: F) ?_ (fun w hw => hw.tail)
          refine next (j + 1, zs) _ (by simp only; omega) ⟨by simp only; omega, by simp only; omega, g3, ?_, hdj⟩ ?_
          · simp only; rw [hd]; exact g4
          · simp only; rw [hd]; exact ⟨rfl, rfl, rfl, rfl, trivial⟩
        · rw [decide_eq_false hk]
          have hd : dropK (row.take (j + 1)) key = kept ++ [y] := by
            rw [← hm, List.take_succ_eq_append_getElem hlt, hyj]
            unfold dropK
            rw [List.filter_append]
            simp [hk]
          have hms : kept.length < zs.length := by omega
          have hCsz : (zs.flatMap candV ++ rest).length = cap * 2 := by
            rw [List.length_append, flatMap_len (enc := candV) (k := 2) (fun _ => rfl), g3]
            rw [List.length_append, flatMap_len (enc := candV) (k := 2) (fun _ => rfl)] at h3
            exact h3
          refine k_val (ev_not rfl) rfl ?_
          refine run_cond (t := true) rfl ?_
          refine run_seq ?_
          refine run_region ?_
          refine k_val (ev_move rfl) rfl ?_
          refine k_val (ev_move rfl) rfl ?_
          refine k_val (ev_loadAllS 2 rfl rfl (by kernel_rfl)) rfl ?_
          refine k_val (ev_indexAddrO (e := 53) 2 rfl rfl (by first | assumption | omega) (by kernel_rfl) (by kernel_rfl)) rfl ?_
          refine k_storeAgg (d := (candV y).toArray) rfl rfl ?_ ?_ (by kernel_rfl) ?_
          · simp only [List.size_toArray]
            rw [hCsz]
            simp only [List.length_cons, List.length_nil]
            omega
          · intro u hu
            simp only [List.mem_cons, List.not_mem_nil, or_false] at hu
            rcases hu with rfl | rfl <;> rfl
          rw [Nat.zero_add, row_set (enc := candV) (k := 2) (fun _ => rfl) y hms]
          refine run_region ?_
          refine k_val (ev_move rfl) rfl ?_
          refine k_val (ev_addN (n := 1) rfl rfl rfl rfl (by omega)) rfl ?_
          refine k_val (ev_assign rfl) rfl ?_
          refine run_inBlock ?_
          refine run_region ?_
          refine k_val (ev_move rfl) rfl ?_
          refine k_val (ev_addN (n := 1) rfl rfl rfl rfl (by omega)) rfl ?_
          refine k_val (ev_assign rfl) rfl ?_
          refine Run.mem (L' := Blk b' (.cells ((zs.set kept.length y).flatMap candV ++ rest).toArray 53 (0, 0)) :: Blk pk (.cells #[.string key] 9 (0, 0)) :: F) ?_ (fun w hw => hw.tail)
          refine next (j + 1, zs.set kept.length y) _ (by simp only; omega) ⟨by simp only; omega, by simp only; omega, by simp only [List.length_set]; exact g3, ?_, ?_⟩ ?_
          · simp only
            rw [hd, List.length_append, List.length_singleton, List.take_succ_eq_append_getElem (by simpa using hms)]
            rw [List.take_set_of_le (Nat.le_refl _), g4]
            simp
          · simp only
            rw [List.drop_set_of_lt (by omega)]
            exact hdj
          · simp only
            rw [hd, List.length_append, List.length_singleton]
            exact ⟨rfl, rfl, rfl, rfl, trivial⟩
      · have hje : j = row.length := by omega
        refine run_seq ?_
        refine run_seq ?_
        refine run_region ?_
        refine k_val (ev_move rfl) rfl ?_
        refine k_val (ev_move rfl) rfl ?_
        refine k_val (ev_lenSlice (e := 53) rfl (by kernel_rfl)) rfl ?_
        refine k_val (ev_bF (ev_lt rfl rfl) (by first | assumption | omega)) rfl ?_
        refine run_cond (t := false) rfl ?_
        refine run_exit rfl (out zs _ ?_ ?_)
        · subst hje
          rw [List.take_length] at hm
          rw [hm]
          exact ⟨g3, g4⟩
        · subst hje
          rw [List.take_length] at hm
          rw [hm]
          exact ⟨rfl, rfl, trivial⟩
    · rintro zs ⟨g1, g2⟩
      have hlt : (dropK row key).length < row.length := by
        have h5 : ((row.take (i0 + 1)).filter fun x => decide (x.1 ≠ key)).length = i0 := by
          have := congrArg List.length hdrop1
          unfold dropK at this
          rw [this, List.length_take]; omega
        have h6 := List.length_filter_le (fun x : Cand => decide (x.1 ≠ key)) (row.drop (i0 + 1))
        unfold dropK
        rw [← List.take_append_drop (i0 + 1) row, List.filter_append, List.length_append, h5]
        rw [List.length_append, List.length_take]
        rw [List.length_drop] at h6 ⊢
        omega
      have hCsz : (zs.flatMap candV ++ rest).length = cap * 2 := by
        rw [List.length_append, flatMap_len (enc := candV) (k := 2) (fun _ => rfl), g1]
        rw [List.length_append, flatMap_len (enc := candV) (k := 2) (fun _ => rfl)] at h3
        exact h3
      generalize hkd : dropK row key = kept at *
      have hzt : (zs.flatMap candV ++ rest).take (kept.length * 2) = kept.flatMap candV := by
        have e0 : zs = kept ++ zs.drop kept.length := by conv => lhs; rw [← List.take_append_drop kept.length zs, g2]
        rw [e0, List.flatMap_append, List.append_assoc]
        exact List.take_left' (flatMap_len (enc := candV) (k := 2) (fun _ => rfl) kept)
      refine run_seq ?_
      refine run_region ?_
      refine k_val (ev_move rfl) rfl ?_
      refine k_val (ev_move rfl) rfl ?_
      refine k_val (ev_sliceB (e := 53) 2 rfl ⟨_, rfl⟩ rfl (by omega) (by omega) (by omega) (by kernel_rfl) (by kernel_rfl)) rfl ?_
      refine k_clearSl (e := 53) (B := 24) (z := #[.string ByteArray.empty, .int .u64 0]) rfl ⟨by kernel_rfl, by kernel_rfl, by kernel_rfl, by kernel_rfl⟩ ?_ rfl ?_
      · simp only [List.size_toArray, List.length_cons, List.length_nil]
        rw [hCsz]; omega
      intro D hD
      refine ⟨_, ⟨[], _, _, rfl, rfl⟩, ?_⟩
      refine run_seq ?_
      refine run_region ?_
      refine k_val (ev_move rfl) rfl ?_
      refine k_val (ev_move rfl) rfl ?_
      refine k_val (ev_sliceB (e := 53) 2 rfl rfl ⟨_, rfl⟩ (by omega) (by omega) (by omega) (by kernel_rfl) (by kernel_rfl)) rfl ?_
      refine k_val (ev_assign rfl) rfl ?_
      refine Run.mem (L' := OwnSl 53 2 kept.length (.slice (some ⟨b', 0, none⟩) kept.length cap) (kept.flatMap candV) :: Blk pk (.cells #[.string key] 9 (0, 0)) :: F) (ret_spec Tryz.func144 rfl rfl rfl) (fun w hw => ?_)
      simp only [List.size_toArray, List.length_cons, List.length_nil, Nat.zero_add, Nat.reduceAdd] at hD hw
      rw [hzt, List.append_assoc] at hw
      refine sat_ownBlk (by omega) (flatMap_len (enc := candV) (k := 2) (fun _ => rfl) kept) ?_ hw
      rw [List.length_append, List.length_append, flatMap_len (enc := candV) (k := 2) (fun _ => rfl), hD, List.length_drop, hCsz]
      omega

theorem drop_spec {key : ByteArray} (hn : p.row.length ≤ 1099511627776) : Spec Tryz.prog G 96 [ptrV b, .string key] (PoolA b p :: F) fun _ L' => L' = PoolA b { p with row := dropK p.row key } :: F := by
  refine Spec.exm (fun _ hw => sat_pool hw) ?_
  rintro ⟨base, cap⟩ -
  simp only
  refine spec_of_run Tryz.func96 rfl rfl ?_
  refine run_seq ?_
  refine run_region ?_
  refine k_box rfl rfl rfl ?_
  intro nb1
  refine k_val (ev_assign rfl) rfl ?_
  refine run_seq ?_
  refine run_seq ?_
  refine run_region ?_
  refine k_val (ev_move rfl) rfl ?_
  refine k_val (ev_eqNil rfl rfl (by kernel_rfl)) rfl ?_
  refine run_cond (t := false) rfl ?_
  refine run_skip ?_
  refine run_seq ?_
  refine run_region ?_
  refine k_val (ev_move rfl) rfl ?_
  refine k_val (ev_nilCheck rfl) rfl ?_
  refine k_val (ev_fieldAddr0 1 rfl (by kernel_rfl)) rfl ?_
  refine k_val (ev_load rfl (by kernel_rfl)) rfl ?_
  refine k_val (ev_lenSlice (e := 53) rfl (by kernel_rfl)) rfl ?_
  refine k_val (ev_assign rfl) rfl ?_
  refine run_seq ?_
  refine run_region ?_
  refine k_val (ev_move rfl) rfl ?_
  refine k_val (ev_move rfl) rfl ?_
  refine k_val (ev_nilCheck rfl) rfl ?_
  refine k_val (ev_fieldAddr0 1 rfl (by kernel_rfl)) rfl ?_
  refine k_val (ev_load rfl (by kernel_rfl)) rfl ?_
  refine k_val (ev_makeFunc rfl rfl) rfl ?_
  refine OpK.perm (L' := OwnSl 53 2 p.row.length (.slice base p.row.length cap) (p.row.flatMap candV) :: Blk nb1 (.cells #[.string key] 9 (0, 0)) :: Blk b (.cells #[.int .i64 p.most, .slice base p.row.length cap] 95 (0, 0)) :: F) (by exact perm_pick [2, 0, 0] _) ?_
  refine k_call rfl rfl (by kernel_rfl) (delfn_spec hn) ?_
  rintro u _ rfl
  refine RunOps.exm (fun _ hw => own_val hw) ?_
  rintro ⟨base', cap'⟩ rfl
  simp only
  refine k_val (ev_nilCheck rfl) rfl ?_
  refine k_val (ev_fieldAddr0 1 rfl (by kernel_rfl)) rfl ?_
  refine k_store rfl rfl rfl rfl (by kernel_rfl) ?_
  refine run_seq ?_
  refine run_region ?_
  refine k_val (ev_move rfl) rfl ?_
  refine k_val (ev_nilCheck rfl) rfl ?_
  refine k_val (ev_fieldAddr0 1 rfl (by kernel_rfl)) rfl ?_
  refine k_val (ev_load rfl (by kernel_rfl)) rfl ?_
  refine k_val (ev_lenSlice (e := 53) rfl (by kernel_rfl)) rfl ?_
  refine k_val (ev_move rfl) rfl ?_
  refine k_val (ev_lt rfl rfl) rfl ?_
  refine k_val (ev_assign rfl) rfl ?_
  refine Run.mem (L' := PoolA b { p with row := dropK p.row key } :: F) (ret_spec Tryz.func96 rfl rfl rfl) (fun w hw => sat_mkPool (v := .slice base' (dropK p.row key).length cap') ?_)
  revert w
  exact fun _ hw => sat_pick [2, 0] 1 hw

theorem clone_spec {row : List Cand} {v : Value} (hn : row.length ≤ 1099511627776) : Spec Tryz.prog G 62 [v] (OwnSl 53 2 row.length v (row.flatMap candV) :: F) fun u L' =>
    L' = OwnSl 53 2 row.length u (row.flatMap candV) :: OwnSl 53 2 row.length v (row.flatMap candV) :: F := by
  refine Spec.exm (κ := (Option Addr × Nat × List HP)) (fun w hw => own_x hw) ?_
  rintro ⟨base, cap, M⟩ ⟨rfl, h1, h2, h3, h4⟩
  simp only at h1 h2 h3 h4 ⊢
  refine spec_of_run Tryz.func62 rfl rfl ?_
  rcases h3 with ⟨rfl, h5, rfl⟩ | ⟨b', C, rfl, hC, hCs, hM⟩
  · have hrow : row = [] := List.length_eq_zero_iff.1 h5
    subst hrow
    refine run_seq ?_
    refine run_region ?_
    refine k_val (ev_assign rfl) rfl ?_
    refine run_seq ?_
    refine run_seq ?_
    refine run_region ?_
    refine k_val (ev_move rfl) rfl ?_
    refine k_val (ev_eqSliceNil (e := 53) rfl rfl (by kernel_rfl)) rfl ?_
    refine run_cond (t := true) rfl ?_
    refine run_seq ?_
    refine run_region ?_
    refine k_val (ev_assign rfl) rfl ?_
    exact Run.mem (ret_spec Tryz.func62 rfl rfl rfl) (fun w hw => sat_ownNil (h4 w _ hw))
  · refine run_seq ?_
    refine run_region ?_
    refine k_val (ev_assign rfl) rfl ?_
    refine run_seq ?_
    refine run_seq ?_
    refine run_region ?_
    refine k_val (ev_move rfl) rfl ?_
    refine k_val (ev_eqSliceNil (e := 53) rfl rfl (by kernel_rfl)) rfl ?_
    refine run_cond (t := false) rfl ?_
    refine run_skip ?_
    refine run_seq ?_
    refine run_region ?_
    refine k_buildSlice0 (e := 53) (B := 24) (z := #[.string ByteArray.empty, .int .u64 0]) ⟨by kernel_rfl, by kernel_rfl, by kernel_rfl, by kernel_rfl⟩ rfl ?_
    intro nb1
    refine RunOps.mem (L' := OwnSl 53 2 0 (.slice (some ⟨nb1, 0, none⟩) 0 0) [] :: (M ++ F)) (fun w hw => sat_ownBlk (rest := []) (Nat.le_refl _) rfl rfl hw) ?_
    refine k_val (ev_move rfl) rfl ?_
    have hX : (C.extract 0 (0 + row.length * 2)).toList = row.flatMap candV := by
      apply List.ext_getElem?
      intro i
      rw [Array.getElem?_toList, Array.getElem?_extract, Nat.zero_add]
      by_cases hi : i < row.length * 2
      · rw [if_pos (by rw [hCs]; omega), Nat.zero_add, hC i (by rw [h1]; exact hi)]
      · rw [if_neg (by omega), List.getElem?_eq_none (by rw [h1]; omega)]
    haveI : Reads G (M ++ F) b' C := hM F
    refine k_append (e := 53) (B := 24) (n := 0) (m := row.length) (v := .slice (some ⟨nb1, 0, none⟩) 0 0) (xs := []) (ys := row.flatMap candV) (z := #[.string ByteArray.empty, .int .u64 0]) (L' := M ++ F) 46 rfl rfl ?_ ⟨by kernel_rfl, by kernel_rfl, by kernel_rfl, by kernel_rfl⟩ rfl (by kernel_rfl) h1 ?_ (by decide) (by omega) rfl ?_
    · have := gives_slice (S := ⟨Tryz.prog, G, .fn 62 (fun e w' => ∃ v_1 L', (L' = OwnSl 53 2 row.length v_1 (row.flatMap candV) :: OwnSl 53 2 row.length (.slice (some ⟨b', 0, none⟩) row.length cap) (row.flatMap candV) :: F) ∧ e = .returned v_1 ∧ Sat G w' L'), 8, []⟩) (L := M ++ F) (b := b') (off := 0) (m := row.length) (mc := cap) (sz := 2) (c := C) (by rw [hCs]; omega)
      rw [hX] at this
      exact this
    · intro q hq
      obtain ⟨x, _, hx⟩ := List.mem_flatMap.1 hq
      simp only [List.mem_cons, List.not_mem_nil, or_false] at hx
      rcases hx with rfl | rfl <;> rfl
    intro nv1 hnv1
    refine k_val (ev_assign rfl) rfl ?_
    refine Run.mem (L' := OwnSl 53 2 row.length nv1 (row.flatMap candV) :: OwnSl 53 2 row.length (.slice (some ⟨b', 0, none⟩) row.length cap) (row.flatMap candV) :: F) (ret_spec Tryz.func62 rfl rfl rfl) (fun w hw => ?_)
    simp only [Nat.zero_add, List.nil_append] at hw
    have h6 := hw.perm (List.perm_middle (l₁ := M)).symm
    exact (h4 w _ h6).swap
end
end Go.PS
