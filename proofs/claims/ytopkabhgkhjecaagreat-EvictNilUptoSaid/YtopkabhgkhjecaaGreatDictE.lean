/-
  The table's iterators, walked.
  Conditions: each contract's own.
-/
import Derived.Test.YtopkabhgkhjecaaGreatDictW6
namespace Go.PS
open Go Go.Proofs
set_option maxRecDepth 10000

/-- What the iterators read of a table. -/
structure DictR (G : World) (L : List HP) (b to ty : Nat) (d : D (Nat × Value)) : Prop where
  cells : Reads G L b (dictCells d to ty)
  old : TabR G L to d.old
  young : TabR G L ty d.young

theorem DictR.row {G : World} {L : List HP} {b to ty : Nat} {d : D (Nat × Value)} (h : DictR G L b to ty d) {i : Nat} {c : List Ent} (hc : d.rows[i]? = some c) : ChainR G L c := by
  have hm := List.mem_of_getElem? hc
  unfold D.rows at hm
  rcases List.mem_append.1 hm with hm | hm
  · rcases h.old with h | h
    · rw [h] at hm; simp at hm
    · exact h.2 _ (List.mem_of_mem_drop hm)
  · rcases h.young with h | h
    · rw [h] at hm; cases hm
    · exact h.2 _ hm

/-- (*Dict).all's function: it tells the heads of the chains. -/
theorem all1_spec {G : World} {L : List HP} {b to ty bx : Nat} {d : D (Nat × Value)} {y : Value} (I : Nat → List HP → Prop) (ok : DOk d) (h0 : I 0 L) (hbx : ∀ i L, I i L → Reads G L bx #[.pointer (some ⟨b, 0, none⟩)]) (hd : ∀ i L, I i L → DictR G L b to ty d)
    (hy : ∀ i c L, d.rows[i]? = some c → I i L → SpecV Tryz.prog G y [.pointer (headP none c)] L fun v L' => v = .bool true ∧ I (i + 1) L') :
    Spec Tryz.prog G 151 [y, .pointer (some ⟨bx, 0, none⟩)] L fun _ L' => I d.rows.length L' := by
  have h1 := ok.at_le
  have h2 := ok.lo
  have h3 := ok.ly
  have hlen : d.rows.length = d.old.length - d.at_ + d.young.length := by unfold D.rows; simp
  refine spec_of_run Tryz.func151 rfl rfl ?_
  haveI := hbx 0 L h0
  haveI hexp : Reads G L b #[.int .u64 d.seed, .slice (tabA to d.old) d.old.length d.old.length, .slice (tabA ty d.young) d.young.length d.young.length, .int .i64 d.at_, .int .i64 d.n] := by
    have := (hd 0 L h0).cells; unfold dictCells at this; rwa [tabV_slice to, tabV_slice ty] at this
  refine run_seq ?_
  refine run_seq ?_
  refine run_quiet (by kernel_rfl) (by kernel_rfl) ?_
  refine q_val (ev_load rfl (by kernel_rfl)) rfl ?_
  refine q_val (ev_nilCheck rfl) rfl ?_
  refine q_val (ev_fieldAddr0 1 rfl (by kernel_rfl)) rfl ?_
  refine q_val (ev_load rfl (by kernel_rfl)) rfl ?_
  refine q_val (ev_load rfl (by kernel_rfl)) rfl ?_
  refine q_val (ev_nilCheck rfl) rfl ?_
  refine q_val (ev_fieldAddr0 3 rfl (by kernel_rfl)) rfl ?_
  refine q_val (ev_load rfl (by kernel_rfl)) rfl ?_
  refine q_val (ev_slice (e := 182) 1 rfl ⟨_, rfl⟩ rfl (by omega) (by omega) (by kernel_rfl) (by kernel_rfl)) rfl ?_
  refine q_val (ev_lenSlice (e := 182) rfl (by kernel_rfl)) rfl ?_
  refine q_val (ev_move rfl) rfl ?_
  refine q_nil ?_
  generalize hq : (if d.old.length = d.at_ then tabA to d.old else Option.map (fun x => x.add (d.at_ * 1)) (tabA to d.old)) = q
  refine run_while (ι := Nat × List HP) (κ := List HP) (fun x => d.old.length - x.1) (fun x => x.1 ≤ d.old.length - d.at_ ∧ I x.1 x.2)
    (fun x => [(0, y), (1, .pointer (some ⟨bx, 0, none⟩)), (15, .slice q (d.old.length - d.at_) (d.old.length - d.at_)), (16, .int .i64 (d.old.length - d.at_ : Nat)), (17, .int .i64 x.1)]) (fun x => x.2)
    (fun L => I (d.old.length - d.at_) L) (fun _ => [(0, y), (1, .pointer (some ⟨bx, 0, none⟩))]) (fun L => L) (0, L) ⟨Nat.zero_le _, h0⟩ ⟨rfl, rfl, rfl, rfl, rfl, trivial⟩ rfl ?_ ?_
  · rintro ⟨i, L⟩ ⟨hi, hI⟩ next out
    simp only at hi hI ⊢
    by_cases hlt : i < d.old.length - d.at_
    · have ho : d.old ≠ [] := by intro h; rw [h] at hlt; simp at hlt
      have hq' : q = some ⟨to, d.at_, none⟩ := by rw [← hq, if_neg (by omega)]; simp [tabA, ho, add_off]
      obtain ⟨c, hc⟩ : ∃ c, d.rows[i]? = some c := ⟨d.rows[i]'(by omega), List.getElem?_eq_getElem _⟩
      have hcell : (tabCells d.old)[d.at_ + i * 1]? = some (.pointer (headP none c)) := by
        rw [Nat.mul_one]
        refine tabCells_get ?_
        rw [← hc]; unfold D.rows
        rw [List.getElem?_append_left (by simpa using hlt), List.getElem?_drop]
      haveI hRo : Reads G L to (tabCells d.old) := by
        rcases (hd i L hI).old with h | h
        · exact absurd h ho
        · exact h.1
      rw [hq']
      refine run_seq ?_
      refine run_region ?_
      refine k_val (ev_bT (ev_lt rfl rfl) (by first | assumption | omega)) rfl ?_
      refine run_seq ?_
      refine run_cond (t := true) rfl ?_
      refine run_skip ?_
      refine run_seq ?_
      refine run_block ?_
      refine run_seq ?_
      refine run_region ?_
      refine k_val (ev_indexAddrO (e := 182) 1 rfl rfl (by first | assumption | omega) (by kernel_rfl) (by kernel_rfl)) rfl ?_
      refine k_val (ev_loadAt rfl (by assumption) (by kernel_rfl)) rfl ?_
      refine k_val (ev_assign rfl) rfl ?_
      refine run_seq ?_
      refine run_region ?_
      refine k_val (ev_move rfl) rfl ?_
      refine k_val (ev_move rfl) rfl ?_
      refine k_callF rfl rfl rfl (hy i c L hc hI) ?_
      rintro _ L' ⟨rfl, hI'⟩
      refine k_val (ev_not rfl) rfl ?_
      refine run_cond (t := false) rfl ?_
      refine run_skip ?_
      refine run_inBlock ?_
      refine run_region ?_
      refine k_val (ev_addN (n := 1) rfl rfl rfl rfl (by omega)) rfl ?_
      refine k_val (ev_move rfl) rfl ?_
      rw [← hq']
      exact next (i + 1, L') _ (by simp only; omega) ⟨by simp only; omega, hI'⟩ ⟨rfl, rfl, rfl, rfl, rfl, trivial⟩
    · have hie : i = d.old.length - d.at_ := by omega
      refine run_seq ?_
      refine run_region ?_
      refine k_val (ev_bF (ev_lt rfl rfl) (by first | assumption | omega)) rfl ?_
      refine run_seq ?_
      refine run_cond (t := false) rfl ?_
      subst hie
      exact run_exit rfl (out L _ hI ⟨rfl, rfl, trivial⟩)
  · intro L hI
    haveI := hbx _ L hI
    haveI hexp : Reads G L b #[.int .u64 d.seed, .slice (tabA to d.old) d.old.length d.old.length, .slice (tabA ty d.young) d.young.length d.young.length, .int .i64 d.at_, .int .i64 d.n] := by
      have := (hd _ L hI).cells; unfold dictCells at this; rwa [tabV_slice to, tabV_slice ty] at this
    refine run_seq ?_
    refine run_region ?_
    refine k_val (ev_load rfl (by kernel_rfl)) rfl ?_
    refine k_val (ev_nilCheck rfl) rfl ?_
    refine k_val (ev_fieldAddr0 2 rfl (by kernel_rfl)) rfl ?_
    refine k_val (ev_load rfl (by kernel_rfl)) rfl ?_
    refine k_val (ev_lenSlice (e := 182) rfl (by kernel_rfl)) rfl ?_
    refine k_val (ev_move rfl) rfl ?_
    refine run_while (ι := Nat × List HP) (κ := List HP) (fun x => d.young.length - x.1) (fun x => x.1 ≤ d.young.length ∧ I (d.old.length - d.at_ + x.1) x.2)
      (fun x => [(0, y), (1, .pointer (some ⟨bx, 0, none⟩)), (29, .slice (tabA ty d.young) d.young.length d.young.length), (30, .int .i64 d.young.length), (31, .int .i64 x.1)]) (fun x => x.2)
      (fun L => I d.rows.length L) (fun _ => []) (fun L => L) (0, L) ⟨Nat.zero_le _, hI⟩ ⟨rfl, rfl, rfl, rfl, rfl, trivial⟩ rfl ?_ ?_
    · rintro ⟨i, L⟩ ⟨hi, hI⟩ next out
      simp only at hi hI ⊢
      by_cases hlt : i < d.young.length
      · have hyn : d.young ≠ [] := by intro h; rw [h] at hlt; simp at hlt
        obtain ⟨c, hc⟩ : ∃ c, d.rows[d.old.length - d.at_ + i]? = some c := ⟨d.rows[d.old.length - d.at_ + i]'(by omega), List.getElem?_eq_getElem _⟩
        have hcell : (tabCells d.young)[i]? = some (.pointer (headP none c)) := by
          refine tabCells_get ?_
          rw [← hc]; unfold D.rows
          rw [List.getElem?_append_right (by simp)]; simp
        haveI hRy : Reads G L ty (tabCells d.young) := by
          rcases (hd _ L hI).young with h | h
          · exact absurd h hyn
          · exact h.1
        have hA : tabA ty d.young = some ⟨ty, 0, none⟩ := by simp [tabA, hyn]
        rw [hA]
        refine run_seq ?_
        refine run_region ?_
        refine k_val (ev_bT (ev_lt rfl rfl) (by first | assumption | omega)) rfl ?_
        refine run_seq ?_
        refine run_cond (t := true) rfl ?_
        refine run_skip ?_
        refine run_seq ?_
        refine run_block ?_
        refine run_seq ?_
        refine run_region ?_
        refine k_val (ev_indexAddr1 (e := 182) rfl rfl (by first | assumption | omega) (by kernel_rfl) (by kernel_rfl)) rfl ?_
        refine k_val (ev_loadAt rfl (by assumption) (by kernel_rfl)) rfl ?_
        refine k_val (ev_assign rfl) rfl ?_
        refine run_seq ?_
        refine run_region ?_
        refine k_val (ev_move rfl) rfl ?_
        refine k_val (ev_move rfl) rfl ?_
        refine k_callF rfl rfl rfl (hy _ c L hc hI) ?_
        rintro _ L' ⟨rfl, hI'⟩
        refine k_val (ev_not rfl) rfl ?_
        refine run_cond (t := false) rfl ?_
        refine run_skip ?_
        refine run_inBlock ?_
        refine run_region ?_
        refine k_val (ev_addN (n := 1) rfl rfl rfl rfl (by omega)) rfl ?_
        refine k_val (ev_move rfl) rfl ?_
        rw [← hA]
        exact next (i + 1, L') _ (by simp only; omega) ⟨by simp only; omega, hI'⟩ ⟨rfl, rfl, rfl, rfl, rfl, trivial⟩
      · have hie : i = d.young.length := by omega
        refine run_seq ?_
        refine run_region ?_
        refine k_val (ev_bF (ev_lt rfl rfl) (by first | assumption | omega)) rfl ?_
        refine run_seq ?_
        refine run_cond (t := false) rfl ?_
        refine run_exit rfl (out L _ ?_ trivial)
        rw [hlen, ← hie]; exact hI
    · intro L hI
      exact end_spec Tryz.func151 rfl rfl hI

/-- (*Dict).all -/
theorem all_spec {G : World} {L : List HP} (p : Option Addr) : Spec Tryz.prog G 111 [.pointer p] L fun v L' => ∃ bx, v = .func (.func 151) #[] #[.pointer (some ⟨bx, 0, none⟩)] ∧ L' = Blk bx (.cells #[.pointer p] 88 (0, 0)) :: L := by
  refine spec_of_run Tryz.func111 rfl rfl ?_
  refine run_seq ?_
  refine run_region ?_
  refine k_box rfl rfl rfl ?_
  intro nb1
  refine k_val (ev_assign rfl) rfl ?_
  refine run_seq ?_
  refine run_region ?_
  refine k_val (ev_makeFunc rfl rfl) rfl ?_
  refine k_val (ev_assign rfl) rfl ?_
  exact ret_spec Tryz.func111 rfl rfl ⟨_, rfl, rfl⟩
/-- (*Dict).Each -/
theorem each_spec {G : World} {L : List HP} (p : Option Addr) : Spec Tryz.prog G 54 [.pointer p] L fun v L' => ∃ bx, v = .func (.func 110) #[] #[.pointer (some ⟨bx, 0, none⟩)] ∧ L' = Blk bx (.cells #[.pointer p] 88 (0, 0)) :: L := by
  refine spec_of_run Tryz.func54 rfl rfl ?_
  refine run_seq ?_
  refine run_region ?_
  refine k_box rfl rfl rfl ?_
  intro nb1
  refine k_val (ev_assign rfl) rfl ?_
  refine run_seq ?_
  refine run_region ?_
  refine k_val (ev_makeFunc rfl rfl) rfl ?_
  refine k_val (ev_assign rfl) rfl ?_
  exact ret_spec Tryz.func54 rfl rfl ⟨_, rfl, rfl⟩

theorem DictR.more {G : World} {L : List HP} {b to ty : Nat} {d : D (Nat × Value)} {L' : List HP} (h : DictR G L b to ty d) (p : ∀ w, Sat G w L' → Sat G w L) : DictR G L' b to ty d := by
  have hr : ∀ {b c}, Reads G L b c → Reads G L' b c := fun h => ⟨fun w hw => h.read w (p w hw)⟩
  have hch : ∀ c : List Ent, ChainR G L c → ChainR G L' c := by
    intro c
    induction c with
    | nil => exact fun h => h
    | cons x r ih => obtain ⟨k, e, v⟩ := x; exact fun h => ⟨hr h.1, ih h.2⟩
  have ht : ∀ {tb t}, TabR G L tb t → TabR G L' tb t := fun h => h.imp id fun h => ⟨hr h.1, fun c hc => hch c (h.2 c hc)⟩
  exact ⟨hr h.cells, ht h.old, ht h.young⟩

/-- (*Dict).Each's function: it tells all keys with what lies under them. -/
theorem each1_spec {G : World} {L : List HP} {b to ty bx : Nat} {d : D (Nat × Value)} {y : Value} (J : Nat → List HP → Prop) (ok : DOk d) (h0 : J 0 L) [hbx : Reads G L bx #[.pointer (some ⟨b, 0, none⟩)]] (hd : DictR G L b to ty d)
    (hv : ∀ c ∈ d.rows, ∀ x ∈ c, ∃ q, x.2.2 = .pointer q) (hn : d.rows.flatten.length ≤ 1099511627776)
    (hy : ∀ i k e v L X, d.rows.flatten[i]? = some (k, e, v) → J i L → SpecV Tryz.prog G y [.string k, v] (X ++ L) fun u L' => u = .bool true ∧ ∃ L1, J (i + 1) L1 ∧ L' = X ++ L1) :
    Spec Tryz.prog G 110 [y, .pointer (some ⟨bx, 0, none⟩)] L fun _ L' => ∃ X L1, J d.rows.flatten.length L1 ∧ L' = X ++ L1 := by
  refine spec_of_run Tryz.func110 rfl rfl ?_
  refine run_seq ?_
  refine run_seq ?_
  refine run_region ?_
  refine k_val (ev_load rfl (by kernel_rfl)) rfl ?_
  refine k_val (ev_eqNil rfl rfl (by kernel_rfl)) rfl ?_
  refine run_cond (t := false) rfl ?_
  refine run_skip ?_
  refine run_seq ?_
  refine run_region ?_
  refine k_alloc (#[.slice none 0 0]) (by kernel_rfl) rfl ?_
  intro nb1
  refine run_seq ?_
  refine run_region ?_
  refine k_alloc (#[.slice none 0 0]) (by kernel_rfl) rfl ?_
  intro nb2
  refine run_seq ?_
  refine run_seq ?_
  refine run_region ?_
  refine k_val (ev_load rfl (by kernel_rfl)) rfl ?_
  refine k_call rfl rfl (by kernel_rfl) (all_spec _) ?_
  rintro _ _ ⟨ba, rfl, rfl⟩
  skip
  generalize hfl : d.rows.flatten = fl at *
  let ks (i : Nat) : List Value := (d.rows.take i).flatten.map fun x => Value.string x.1
  let vs (i : Nat) : List Value := (d.rows.take i).flatten.map fun x => x.2.2
  let m (i : Nat) : Nat := (d.rows.take i).flatten.length
  have hm : ∀ i c, d.rows[i]? = some c → m (i + 1) = m i + c.length ∧ ks (i + 1) = ks i ++ c.map (fun x => Value.string x.1) ∧ vs (i + 1) = vs i ++ c.map (fun x => x.2.2) := by
    intro i c hc
    obtain ⟨hi, rfl⟩ := List.getElem?_eq_some_iff.1 hc
    have key : (d.rows.take (i + 1)).flatten = (d.rows.take i).flatten ++ d.rows[i] := by
      rw [List.take_succ_eq_append_getElem hi, List.flatten_append, List.flatten_singleton]
    refine ⟨?_, ?_, ?_⟩
    · show (d.rows.take (i + 1)).flatten.length = _
      rw [key, List.length_append]
    · show (d.rows.take (i + 1)).flatten.map _ = _
      rw [key, List.map_append]
    · show (d.rows.take (i + 1)).flatten.map _ = _
      rw [key, List.map_append]
  have hmle : ∀ i c, d.rows[i]? = some c → m i + c.length ≤ fl.length := by
    intro i c hc
    rw [← (hm i c hc).1, ← hfl]
    show (d.rows.take (i + 1)).flatten.length ≤ _
    conv => rhs; rw [← List.take_append_drop (i + 1) d.rows, List.flatten_append, List.length_append]
    omega
  refine run_block (run_rangeFunc (us := []) (cap := [.pointer (some ⟨ba, 0, none⟩)]) rfl (by kernel_rfl) ?_)
  intro l r dd hr
  let Z : List HP := Blk dd (.deferred (some [])) :: Blk ba (.cells #[.pointer (some ⟨b, 0, none⟩)] 88 (0, 0)) :: L
  let I (i : Nat) (L' : List HP) : Prop := ∃ v1 v2, L' = Blk l (.loop r) :: Blk nb1 (.cells #[v1] 62 (0, 0)) :: OwnSl 9 1 (m i) v1 (ks i) :: Blk nb2 (.cells #[v2] 178 (0, 0)) :: OwnSl 90 1 (m i) v2 (vs i) :: Z
  have hbase : ∀ i L', I i L' → ∀ w, Sat G w L' → Sat G w L := by
    rintro i L' ⟨v1, v2, rfl⟩ w hw
    exact hw.tail.tail.tail.tail.tail.tail.tail
  refine ((all1_spec (L := Blk l (.loop r) :: Blk nb1 (.cells #[.slice none 0 0] 62 (0, 0)) :: OwnSl 9 1 0 (.slice none 0 0) [] :: Blk nb2 (.cells #[.slice none 0 0] 178 (0, 0)) :: OwnSl 90 1 0 (.slice none 0 0) [] :: Z) (b := b) (to := to) (ty := ty) (bx := ba) (d := d) I ok ⟨_, _, rfl⟩ ?_ ?_ ?_).mono ?_).mem ?_
  · rintro i L' ⟨v1, v2, rfl⟩
    infer_instance
  · intro i L' hI
    exact hd.more (hbase i L' hI)
  · rintro i c L' hc ⟨v1, v2, rfl⟩
    have hch := hd.row hc
    have hqs : ∀ x ∈ c, ∃ q, x.2.2 = .pointer q := hv c (List.mem_of_getElem? hc)
    have hle := hmle i c hc
    obtain ⟨hm1, hm2, hm3⟩ := hm i c hc
    refine specV_round hr rfl rfl ?_
    refine run_region ?_
    refine k_val (ev_assign rfl) rfl ?_
    refine run_beginRound' hr.ready ?_
    skip
    refine run_block ?_
    generalize hmi : m i = mi at *
    generalize hki : ks i = ki at *
    generalize hvi : vs i = vi at *
    refine run_while (ι := Nat × Value × Value) (κ := Value × Value) (fun x => c.length - x.1) (fun x => x.1 ≤ c.length)
      (fun x => [(3, .pointer (some ⟨nb1, 0, none⟩)), (4, .pointer (some ⟨nb2, 0, none⟩)), (5, .pointer (headP none (c.drop x.1)))])
      (fun x => Blk l (.loop { r with state := .busy }) :: Blk nb1 (.cells #[x.2.1] 62 (0, 0)) :: OwnSl 9 1 (mi + x.1) x.2.1 (ki ++ (c.take x.1).map fun x => Value.string x.1) :: Blk nb2 (.cells #[x.2.2] 178 (0, 0)) :: OwnSl 90 1 (mi + x.1) x.2.2 (vi ++ (c.take x.1).map fun x => x.2.2) :: Z)
      (fun _ => True) (fun _ => [])
      (fun x => Blk l (.loop { r with state := .busy }) :: Blk nb1 (.cells #[x.1] 62 (0, 0)) :: OwnSl 9 1 (mi + c.length) x.1 (ki ++ c.map fun x => Value.string x.1) :: Blk nb2 (.cells #[x.2] 178 (0, 0)) :: OwnSl 90 1 (mi + c.length) x.2 (vi ++ c.map fun x => x.2.2) :: Z)
      (0, v1, v2) (Nat.zero_le _) ⟨rfl, rfl, rfl, trivial⟩ (by simp) ?_ ?_
    · rintro ⟨j, v1, v2⟩ hj next out
      simp only at hj ⊢
      by_cases hjl : j < c.length
      · obtain ⟨k, e, v, he, hh, hre⟩ := chain_at hch hjl
        obtain ⟨q, hq⟩ := hqs _ (List.mem_of_getElem? he)
        simp only at hq
        subst hq
        rw [hh]
        refine run_seq ?_
        refine run_seq ?_
        refine run_region ?_
        refine k_val (ev_move rfl) rfl ?_
        refine k_val (ev_neNil rfl rfl (by kernel_rfl)) rfl ?_
        refine run_cond (t := true) rfl ?_
        refine run_skip ?_
        refine run_seq ?_
        refine run_block ?_
        refine run_seq ?_
        refine run_any (κ := Value) (fun _ => True) (fun _ => [(3, .pointer (some ⟨nb1, 0, none⟩)), (4, .pointer (some ⟨nb2, 0, none⟩)), (5, .pointer (some ⟨e, 0, none⟩))])
          (fun v' => Blk l (.loop { r with state := .busy }) :: Blk nb1 (.cells #[v'] 62 (0, 0)) :: OwnSl 9 1 (mi + j + 1) v' (ki ++ List.map (fun x => Value.string x.fst) (List.take j c) ++ [.string k]) :: Blk nb2 (.cells #[v2] 178 (0, 0)) :: OwnSl 90 1 (mi + j) v2 (vi ++ List.map (fun x => x.snd.snd) (List.take j c)) :: Z) (by kernel_rfl) ?_ ?_
        · skip
          refine any2 0 1 (by kernel_rfl) rfl rfl ?_ ?_
          refine k_val (ev_load rfl (by kernel_rfl)) rfl ?_
          refine any1 1 (by kernel_rfl) rfl ?_
          refine k_val (ev_move rfl) rfl ?_
          refine any1 2 (by kernel_rfl) rfl ?_
          refine k_val (ev_nilCheck rfl) rfl ?_
          refine any1 3 (by kernel_rfl) rfl ?_
          refine k_val (ev_fieldAddr0 0 rfl (by kernel_rfl)) rfl ?_
          refine any1 4 (by kernel_rfl) rfl ?_
          refine k_val (ev_load rfl (by kernel_rfl)) rfl ?_
          refine any1 5 (by kernel_rfl) rfl ?_
          refine k_buildSlice1 (e := 9) (B := 16) (z := #[.string ByteArray.empty]) rfl ⟨by kernel_rfl, by kernel_rfl, by kernel_rfl, by kernel_rfl⟩ rfl (by decide) (by decide) rfl ?_
          intro nb3
          refine any1 6 (by kernel_rfl) rfl ?_
          refine k_append1 (e := 9) (B := 16) (z := #[.string ByteArray.empty]) 1 rfl rfl ⟨by kernel_rfl, by kernel_rfl, by kernel_rfl, by kernel_rfl⟩ rfl (by kernel_rfl) rfl rfl (by decide) (by omega) rfl ?_
          intro nv1 hnv1
          refine any1 7 (by kernel_rfl) rfl ?_
          refine k_store rfl rfl rfl (by assumption) (by kernel_rfl) ?_
          exact anyEnd ⟨nv1, trivial, ⟨rfl, rfl, rfl, trivial⟩, fun w hw => hw.swap.tail.perm perm3⟩
          refine k_val (ev_move rfl) rfl ?_
          refine any2 0 2 (by kernel_rfl) rfl rfl ?_ ?_
          refine k_val (ev_load rfl (by kernel_rfl)) rfl ?_
          refine any1 2 (by kernel_rfl) rfl ?_
          refine k_val (ev_nilCheck rfl) rfl ?_
          refine any1 3 (by kernel_rfl) rfl ?_
          refine k_val (ev_fieldAddr0 0 rfl (by kernel_rfl)) rfl ?_
          refine any1 4 (by kernel_rfl) rfl ?_
          refine k_val (ev_load rfl (by kernel_rfl)) rfl ?_
          refine any1 5 (by kernel_rfl) rfl ?_
          refine k_buildSlice1 (e := 9) (B := 16) (z := #[.string ByteArray.empty]) rfl ⟨by kernel_rfl, by kernel_rfl, by kernel_rfl, by kernel_rfl⟩ rfl (by decide) (by decide) rfl ?_
          intro nb3
          refine any1 6 (by kernel_rfl) rfl ?_
          refine k_append1 (e := 9) (B := 16) (z := #[.string ByteArray.empty]) 1 rfl rfl ⟨by kernel_rfl, by kernel_rfl, by kernel_rfl, by kernel_rfl⟩ rfl (by kernel_rfl) rfl rfl (by decide) (by omega) rfl ?_
          intro nv1 hnv1
          refine any1 7 (by kernel_rfl) rfl ?_
          refine k_store rfl rfl rfl (by assumption) (by kernel_rfl) ?_
          exact anyEnd ⟨nv1, trivial, ⟨rfl, rfl, rfl, trivial⟩, fun w hw => hw.swap.tail.perm perm3⟩
          refine k_val (ev_nilCheck rfl) rfl ?_
          refine any2 0 3 (by kernel_rfl) rfl rfl ?_ ?_
          refine k_val (ev_load rfl (by kernel_rfl)) rfl ?_
          refine any1 3 (by kernel_rfl) rfl ?_
          refine k_val (ev_fieldAddr0 0 rfl (by kernel_rfl)) rfl ?_
          refine any1 4 (by kernel_rfl) rfl ?_
          refine k_val (ev_load rfl (by kernel_rfl)) rfl ?_
          refine any1 5 (by kernel_rfl) rfl ?_
          refine k_buildSlice1 (e := 9) (B := 16) (z := #[.string ByteArray.empty]) rfl ⟨by kernel_rfl, by kernel_rfl, by kernel_rfl, by kernel_rfl⟩ rfl (by decide) (by decide) rfl ?_
          intro nb3
          refine any1 6 (by kernel_rfl) rfl ?_
          refine k_append1 (e := 9) (B := 16) (z := #[.string ByteArray.empty]) 1 rfl rfl ⟨by kernel_rfl, by kernel_rfl, by kernel_rfl, by kernel_rfl⟩ rfl (by kernel_rfl) rfl rfl (by decide) (by omega) rfl ?_
          intro nv1 hnv1
          refine any1 7 (by kernel_rfl) rfl ?_
          refine k_store rfl rfl rfl (by assumption) (by kernel_rfl) ?_
          exact anyEnd ⟨nv1, trivial, ⟨rfl, rfl, rfl, trivial⟩, fun w hw => hw.swap.tail.perm perm3⟩
          refine k_val (ev_fieldAddr0 0 rfl (by kernel_rfl)) rfl ?_
          refine any2 0 4 (by kernel_rfl) rfl rfl ?_ ?_
          refine k_val (ev_load rfl (by kernel_rfl)) rfl ?_
          refine any1 4 (by kernel_rfl) rfl ?_
          refine k_val (ev_load rfl (by kernel_rfl)) rfl ?_
          refine any1 5 (by kernel_rfl) rfl ?_
          refine k_buildSlice1 (e := 9) (B := 16) (z := #[.string ByteArray.empty]) rfl ⟨by kernel_rfl, by kernel_rfl, by kernel_rfl, by kernel_rfl⟩ rfl (by decide) (by decide) rfl ?_
          intro nb3
          refine any1 6 (by kernel_rfl) rfl ?_
          refine k_append1 (e := 9) (B := 16) (z := #[.string ByteArray.empty]) 1 rfl rfl ⟨by kernel_rfl, by kernel_rfl, by kernel_rfl, by kernel_rfl⟩ rfl (by kernel_rfl) rfl rfl (by decide) (by omega) rfl ?_
          intro nv1 hnv1
          refine any1 7 (by kernel_rfl) rfl ?_
          refine k_store rfl rfl rfl (by assumption) (by kernel_rfl) ?_
          exact anyEnd ⟨nv1, trivial, ⟨rfl, rfl, rfl, trivial⟩, fun w hw => hw.swap.tail.perm perm3⟩
          refine k_val (ev_load rfl (by kernel_rfl)) rfl ?_
          refine any2 0 5 (by kernel_rfl) rfl rfl ?_ ?_
          refine k_val (ev_load rfl (by kernel_rfl)) rfl ?_
          refine any1 5 (by kernel_rfl) rfl ?_
          refine k_buildSlice1 (e := 9) (B := 16) (z := #[.string ByteArray.empty]) rfl ⟨by kernel_rfl, by kernel_rfl, by kernel_rfl, by kernel_rfl⟩ rfl (by decide) (by decide) rfl ?_
          intro nb3
          refine any1 6 (by kernel_rfl) rfl ?_
          refine k_append1 (e := 9) (B := 16) (z := #[.string ByteArray.empty]) 1 rfl rfl ⟨by kernel_rfl, by kernel_rfl, by kernel_rfl, by kernel_rfl⟩ rfl (by kernel_rfl) rfl rfl (by decide) (by omega) rfl ?_
          intro nv1 hnv1
          refine any1 7 (by kernel_rfl) rfl ?_
          refine k_store rfl rfl rfl (by assumption) (by kernel_rfl) ?_
          exact anyEnd ⟨nv1, trivial, ⟨rfl, rfl, rfl, trivial⟩, fun w hw => hw.swap.tail.perm perm3⟩
          refine k_buildSlice1 (e := 9) (B := 16) (z := #[.string ByteArray.empty]) rfl ⟨by kernel_rfl, by kernel_rfl, by kernel_rfl, by kernel_rfl⟩ rfl (by decide) (by decide) rfl ?_
          intro nb3
          refine any1 0 (by kernel_rfl) rfl ?_
          refine k_val (ev_load rfl (by kernel_rfl)) rfl ?_
          refine any1 6 (by kernel_rfl) rfl ?_
          refine k_append1 (e := 9) (B := 16) (z := #[.string ByteArray.empty]) 1 rfl rfl ⟨by kernel_rfl, by kernel_rfl, by kernel_rfl, by kernel_rfl⟩ rfl (by kernel_rfl) rfl rfl (by decide) (by omega) rfl ?_
          intro nv1 hnv1
          refine any1 7 (by kernel_rfl) rfl ?_
          refine k_store rfl rfl rfl (by assumption) (by kernel_rfl) ?_
          exact anyEnd ⟨nv1, trivial, ⟨rfl, rfl, rfl, trivial⟩, fun w hw => hw.swap.tail.perm perm3⟩
        · intro v1' _
          skip
          refine run_any (κ := Value) (fun _ => True) (fun _ => [(3, .pointer (some ⟨nb1, 0, none⟩)), (4, .pointer (some ⟨nb2, 0, none⟩)), (5, .pointer (some ⟨e, 0, none⟩))])
            (fun v' => Blk l (.loop { r with state := .busy }) :: Blk nb1 (.cells #[v1'] 62 (0, 0)) :: OwnSl 9 1 (mi + j + 1) v1' (ki ++ List.map (fun x => Value.string x.fst) (List.take j c) ++ [.string k]) :: Blk nb2 (.cells #[v'] 178 (0, 0)) :: OwnSl 90 1 (mi + j + 1) v' (vi ++ List.map (fun x => x.snd.snd) (List.take j c) ++ [.pointer q]) :: Z) (by kernel_rfl) ?_ ?_
          · skip
            refine any2 0 1 (by kernel_rfl) rfl rfl ?_ ?_
            refine k_val (ev_load rfl (by kernel_rfl)) rfl ?_
            refine any1 1 (by kernel_rfl) rfl ?_
            refine k_val (ev_move rfl) rfl ?_
            refine any1 2 (by kernel_rfl) rfl ?_
            refine k_val (ev_nilCheck rfl) rfl ?_
            refine any1 3 (by kernel_rfl) rfl ?_
            refine k_val (ev_fieldAddr0 1 rfl (by kernel_rfl)) rfl ?_
            refine any1 4 (by kernel_rfl) rfl ?_
            refine k_val (ev_load rfl (by kernel_rfl)) rfl ?_
            refine any1 5 (by kernel_rfl) rfl ?_
            refine k_buildSlice1 (e := 90) (B := 8) (z := #[.pointer none]) rfl ⟨by kernel_rfl, by kernel_rfl, by kernel_rfl, by kernel_rfl⟩ rfl (by decide) (by decide) rfl ?_
            intro nb3
            refine any1 6 (by kernel_rfl) rfl ?_
            refine k_append1 (e := 90) (B := 8) (z := #[.pointer none]) 1 rfl rfl ⟨by kernel_rfl, by kernel_rfl, by kernel_rfl, by kernel_rfl⟩ rfl (by kernel_rfl) rfl rfl (by decide) (by omega) rfl ?_
            intro nv1 hnv1
            refine any1 7 (by kernel_rfl) rfl ?_
            refine k_store rfl rfl rfl (by assumption) (by kernel_rfl) ?_
            exact anyEnd ⟨nv1, trivial, ⟨rfl, rfl, rfl, trivial⟩, fun w hw => hw.swap.tail.perm perm5⟩
            refine k_val (ev_move rfl) rfl ?_
            refine any2 0 2 (by kernel_rfl) rfl rfl ?_ ?_
            refine k_val (ev_load rfl (by kernel_rfl)) rfl ?_
            refine any1 2 (by kernel_rfl) rfl ?_
            refine k_val (ev_nilCheck rfl) rfl ?_
            refine any1 3 (by kernel_rfl) rfl ?_
            refine k_val (ev_fieldAddr0 1 rfl (by kernel_rfl)) rfl ?_
            refine any1 4 (by kernel_rfl) rfl ?_
            refine k_val (ev_load rfl (by kernel_rfl)) rfl ?_
            refine any1 5 (by kernel_rfl) rfl ?_
            refine k_buildSlice1 (e := 90) (B := 8) (z := #[.pointer none]) rfl ⟨by kernel_rfl, by kernel_rfl, by kernel_rfl, by kernel_rfl⟩ rfl (by decide) (by decide) rfl ?_
            intro nb3
            refine any1 6 (by kernel_rfl) rfl ?_
            refine k_append1 (e := 90) (B := 8) (z := #[.pointer none]) 1 rfl rfl ⟨by kernel_rfl, by kernel_rfl, by kernel_rfl, by kernel_rfl⟩ rfl (by kernel_rfl) rfl rfl (by decide) (by omega) rfl ?_
            intro nv1 hnv1
            refine any1 7 (by kernel_rfl) rfl ?_
            refine k_store rfl rfl rfl (by assumption) (by kernel_rfl) ?_
            exact anyEnd ⟨nv1, trivial, ⟨rfl, rfl, rfl, trivial⟩, fun w hw => hw.swap.tail.perm perm5⟩
            refine k_val (ev_nilCheck rfl) rfl ?_
            refine any2 0 3 (by kernel_rfl) rfl rfl ?_ ?_
            refine k_val (ev_load rfl (by kernel_rfl)) rfl ?_
            refine any1 3 (by kernel_rfl) rfl ?_
            refine k_val (ev_fieldAddr0 1 rfl (by kernel_rfl)) rfl ?_
            refine any1 4 (by kernel_rfl) rfl ?_
            refine k_val (ev_load rfl (by kernel_rfl)) rfl ?_
            refine any1 5 (by kernel_rfl) rfl ?_
            refine k_buildSlice1 (e := 90) (B := 8) (z := #[.pointer none]) rfl ⟨by kernel_rfl, by kernel_rfl, by kernel_rfl, by kernel_rfl⟩ rfl (by decide) (by decide) rfl ?_
            intro nb3
            refine any1 6 (by kernel_rfl) rfl ?_
            refine k_append1 (e := 90) (B := 8) (z := #[.pointer none]) 1 rfl rfl ⟨by kernel_rfl, by kernel_rfl, by kernel_rfl, by kernel_rfl⟩ rfl (by kernel_rfl) rfl rfl (by decide) (by omega) rfl ?_
            intro nv1 hnv1
            refine any1 7 (by kernel_rfl) rfl ?_
            refine k_store rfl rfl rfl (by assumption) (by kernel_rfl) ?_
            exact anyEnd ⟨nv1, trivial, ⟨rfl, rfl, rfl, trivial⟩, fun w hw => hw.swap.tail.perm perm5⟩
            refine k_val (ev_fieldAddr0 1 rfl (by kernel_rfl)) rfl ?_
            refine any2 0 4 (by kernel_rfl) rfl rfl ?_ ?_
            refine k_val (ev_load rfl (by kernel_rfl)) rfl ?_
            refine any1 4 (by kernel_rfl) rfl ?_
            refine k_val (ev_load rfl (by kernel_rfl)) rfl ?_
            refine any1 5 (by kernel_rfl) rfl ?_
            refine k_buildSlice1 (e := 90) (B := 8) (z := #[.pointer none]) rfl ⟨by kernel_rfl, by kernel_rfl, by kernel_rfl, by kernel_rfl⟩ rfl (by decide) (by decide) rfl ?_
            intro nb3
            refine any1 6 (by kernel_rfl) rfl ?_
            refine k_append1 (e := 90) (B := 8) (z := #[.pointer none]) 1 rfl rfl ⟨by kernel_rfl, by kernel_rfl, by kernel_rfl, by kernel_rfl⟩ rfl (by kernel_rfl) rfl rfl (by decide) (by omega) rfl ?_
            intro nv1 hnv1
            refine any1 7 (by kernel_rfl) rfl ?_
            refine k_store rfl rfl rfl (by assumption) (by kernel_rfl) ?_
            exact anyEnd ⟨nv1, trivial, ⟨rfl, rfl, rfl, trivial⟩, fun w hw => hw.swap.tail.perm perm5⟩
            refine k_val (ev_load rfl (by kernel_rfl)) rfl ?_
            refine any2 0 5 (by kernel_rfl) rfl rfl ?_ ?_
            refine k_val (ev_load rfl (by kernel_rfl)) rfl ?_
            refine any1 5 (by kernel_rfl) rfl ?_
            refine k_buildSlice1 (e := 90) (B := 8) (z := #[.pointer none]) rfl ⟨by kernel_rfl, by kernel_rfl, by kernel_rfl, by kernel_rfl⟩ rfl (by decide) (by decide) rfl ?_
            intro nb3
            refine any1 6 (by kernel_rfl) rfl ?_
            refine k_append1 (e := 90) (B := 8) (z := #[.pointer none]) 1 rfl rfl ⟨by kernel_rfl, by kernel_rfl, by kernel_rfl, by kernel_rfl⟩ rfl (by kernel_rfl) rfl rfl (by decide) (by omega) rfl ?_
            intro nv1 hnv1
            refine any1 7 (by kernel_rfl) rfl ?_
            refine k_store rfl rfl rfl (by assumption) (by kernel_rfl) ?_
            exact anyEnd ⟨nv1, trivial, ⟨rfl, rfl, rfl, trivial⟩, fun w hw => hw.swap.tail.perm perm5⟩
            refine k_buildSlice1 (e := 90) (B := 8) (z := #[.pointer none]) rfl ⟨by kernel_rfl, by kernel_rfl, by kernel_rfl, by kernel_rfl⟩ rfl (by decide) (by decide) rfl ?_
            intro nb3
            refine any1 0 (by kernel_rfl) rfl ?_
            refine k_val (ev_load rfl (by kernel_rfl)) rfl ?_
            refine any1 6 (by kernel_rfl) rfl ?_
            refine k_append1 (e := 90) (B := 8) (z := #[.pointer none]) 1 rfl rfl ⟨by kernel_rfl, by kernel_rfl, by kernel_rfl, by kernel_rfl⟩ rfl (by kernel_rfl) rfl rfl (by decide) (by omega) rfl ?_
            intro nv1 hnv1
            refine any1 7 (by kernel_rfl) rfl ?_
            refine k_store rfl rfl rfl (by assumption) (by kernel_rfl) ?_
            exact anyEnd ⟨nv1, trivial, ⟨rfl, rfl, rfl, trivial⟩, fun w hw => hw.swap.tail.perm perm5⟩
          · intro v2' _
            refine run_inBlock ?_
            refine run_region ?_
            refine k_val (ev_move rfl) rfl ?_
            refine k_val (ev_nilCheck rfl) rfl ?_
            refine k_val (ev_fieldAddr0 2 rfl (by kernel_rfl)) rfl ?_
            refine k_val (ev_load rfl (by kernel_rfl)) rfl ?_
            refine k_val (ev_assign rfl) rfl ?_
            have ht : c.take (j + 1) = c.take j ++ [(k, e, .pointer q)] := by
              obtain ⟨h1, h2⟩ := List.getElem?_eq_some_iff.1 he
              rw [List.take_succ_eq_append_getElem h1, h2]
            have e1 : ki ++ List.map (fun x => Value.string x.fst) (List.take j c) ++ [.string k] = ki ++ List.map (fun x => Value.string x.fst) (List.take (j + 1) c) := by rw [ht]; simp
            have e2 : vi ++ List.map (fun x => x.snd.snd) (List.take j c) ++ [.pointer q] = vi ++ List.map (fun x => x.snd.snd) (List.take (j + 1) c) := by rw [ht]; simp
            rw [e1, e2]
            exact next (j + 1, v1', v2') _ (by simp only; omega) (by simp only; omega) ⟨rfl, rfl, rfl, trivial⟩
      · have hje : j = c.length := by omega
        subst hje
        rw [List.take_length, List.drop_length, headP_nil]
        refine run_seq ?_
        refine run_seq ?_
        refine run_region ?_
        refine k_val (ev_move rfl) rfl ?_
        refine k_val (ev_neNil rfl rfl (by kernel_rfl)) rfl ?_
        refine run_cond (t := false) rfl ?_
        exact run_exit rfl (out (v1, v2) _ trivial trivial)
    · rintro ⟨v1, v2⟩ _
      refine run_inBlock ?_
      refine run_roundBack hr ⟨rfl, v1, v2, ?_⟩
      rw [hm1, hm2, hm3]
  · rintro _ L' ⟨v1, v2, rfl⟩
    refine ⟨r, _, rfl, by rw [hr.ready]; simp, ?_⟩
    rw [hr.pend]
    have e1 : m d.rows.length = fl.length := by show (d.rows.take d.rows.length).flatten.length = _; rw [List.take_length, hfl]
    have e2 : ks d.rows.length = fl.map fun x => Value.string x.1 := by show (d.rows.take d.rows.length).flatten.map _ = _; rw [List.take_length, hfl]
    have e3 : vs d.rows.length = fl.map fun x => x.2.2 := by show (d.rows.take d.rows.length).flatten.map _ = _; rw [List.take_length, hfl]
    rw [e1, e2, e3]
    clear hm hmle hbase
    refine run_inBlock ?_
    refine run_seq ?_
    refine run_region ?_
    refine k_val (ev_load rfl (by kernel_rfl)) rfl ?_
    refine OpK.mem (L' := OwnSl 9 1 fl.length v1 (fl.map fun x => Value.string x.1) :: OwnSl 90 1 fl.length v2 (fl.map fun x => x.2.2) :: Blk dd (.deferred (some [])) :: Blk nb2 (.cells #[v2] 178 (0, 0)) :: L) ?_ ?_
    · exact fun _ hw => sat_pick [1, 2, 2, 1] 2 hw
    refine OpK.exm (κ := (Option Addr × Nat × List HP) × (Option Addr × Nat × List HP))
      (p := fun x => (v1 = .slice x.1.1 fl.length x.1.2.1 ∧ ∀ i, i < (fl.map fun x => Value.string x.1).length → ∃ b C, x.1.1 = some ⟨b, 0, none⟩ ∧ C[i]? = (fl.map fun x => Value.string x.1)[i]? ∧ ∀ L, Reads G (x.1.2.2 ++ L) b C) ∧
        (v2 = .slice x.2.1 fl.length x.2.2.1 ∧ ∀ i, i < (fl.map fun x => x.2.2).length → ∃ b C, x.2.1 = some ⟨b, 0, none⟩ ∧ C[i]? = (fl.map fun x => x.2.2)[i]? ∧ ∀ L, Reads G (x.2.2.2 ++ L) b C))
      (M := fun x => Blk dd (.deferred (some [])) :: Blk nb2 (.cells #[v2] 178 (0, 0)) :: (x.2.2.2 ++ (x.1.2.2 ++ L))) ?_ ?_
    · intro w hw
      obtain ⟨base1, cap1, M1, a1, _, _, a2, a3⟩ := own_open hw
      obtain ⟨base2, cap2, M2, b1, _, _, b2, b3⟩ := own_open (a2.perm List.perm_middle)
      refine ⟨((base1, cap1, M1), (base2, cap2, M2)), ⟨⟨a1, a3⟩, b1, b3⟩, ?_⟩
      have := b2.perm ((List.perm_middle (l₁ := M1)).append_left M2)
      have := this.perm (List.perm_middle (l₁ := M2))
      have := this.perm (((List.perm_middle (l₁ := M1)).append_left M2).cons _)
      exact this.perm ((List.perm_middle (l₁ := M2)).cons _)
    rintro ⟨⟨base1, cap1, M1⟩, ⟨base2, cap2, M2⟩⟩ ⟨⟨rfl, hM1⟩, rfl, hM2⟩
    simp only at hM1 hM2 ⊢
    clear I
    refine k_val (ev_lenSlice (e := 9) rfl (by kernel_rfl)) rfl ?_
    refine k_val (ev_move rfl) rfl ?_
    generalize hX : Blk dd (.deferred (some [])) :: Blk nb2 (.cells #[.slice base2 fl.length cap2] 178 (0, 0)) :: (M2 ++ M1) = X
    have hXL : ∀ L, Blk dd (.deferred (some [])) :: Blk nb2 (.cells #[.slice base2 fl.length cap2] 178 (0, 0)) :: (M2 ++ (M1 ++ L)) = X ++ L := by intro L; rw [← hX]; simp
    rw [hXL]
    refine run_while (ι := Nat × List HP) (κ := List HP) (fun x => fl.length - x.1) (fun x => x.1 ≤ fl.length ∧ J x.1 x.2)
      (fun x => [(0, y), (4, .pointer (some ⟨nb2, 0, none⟩)), (33, .slice base1 fl.length cap1), (34, .int .i64 fl.length), (35, .int .i64 x.1)]) (fun x => X ++ x.2)
      (fun L1 => J fl.length L1) (fun _ => []) (fun L1 => X ++ L1) (0, L) ⟨Nat.zero_le _, h0⟩ ⟨rfl, rfl, rfl, rfl, rfl, trivial⟩ rfl ?_ ?_
    · rintro ⟨i, L1⟩ ⟨hi, hJ⟩ next out
      simp only at hi hJ ⊢
      by_cases hlt : i < fl.length
      · obtain ⟨b1, C1, rfl, hc1, hr1⟩ := hM1 i (by simpa using hlt)
        obtain ⟨b2, C2, rfl, hc2, hr2⟩ := hM2 i (by simpa using hlt)
        obtain ⟨⟨k, e, v⟩, hx⟩ : ∃ x, fl[i]? = some x := ⟨_, List.getElem?_eq_getElem hlt⟩
        have hc1' : C1[i]? = some (.string k) := by rw [hc1]; simp [hx]
        have hc2' : C2[i]? = some v := by rw [hc2]; simp [hx]
        have hsp := hy i k e v L1 X hx hJ
        rw [← hXL] at hsp ⊢
        haveI q1 : Reads G (M2 ++ (M1 ++ L1)) b1 C1 := reads_append M2 (hr1 L1)
        haveI q2 := hr2 (M1 ++ L1)
        refine run_seq ?_
        refine run_region ?_
        refine k_val (ev_bT (ev_lt rfl rfl) (by first | assumption | omega)) rfl ?_
        refine run_seq ?_
        refine run_cond (t := true) rfl ?_
        refine run_skip ?_
        refine run_seq ?_
        refine run_block ?_
        refine run_seq ?_
        refine run_region ?_
        refine k_val (ev_move rfl) rfl ?_
        refine k_val (ev_indexAddr1 (e := 9) rfl rfl (by first | assumption | omega) (by kernel_rfl) (by kernel_rfl)) rfl ?_
        refine k_val (ev_loadAt rfl (by assumption) (by kernel_rfl)) rfl ?_
        refine k_val (ev_assign rfl) rfl ?_
        refine k_val (ev_assign rfl) rfl ?_
        refine run_seq ?_
        refine run_region ?_
        refine k_val (ev_move rfl) rfl ?_
        refine k_val (ev_move rfl) rfl ?_
        refine k_val (ev_load rfl (by kernel_rfl)) rfl ?_
        refine k_val (ev_move rfl) rfl ?_
        refine k_val (ev_indexAddr1 (e := 90) rfl rfl (by first | assumption | omega) (by kernel_rfl) (by kernel_rfl)) rfl ?_
        refine k_val (ev_loadAt rfl (by assumption) (by kernel_rfl)) rfl ?_
        refine k_callF rfl rfl rfl hsp ?_
        rintro _ _ ⟨rfl, L2, hJ2, rfl⟩
        refine k_val (ev_not rfl) rfl ?_
        refine run_cond (t := false) rfl ?_
        refine run_skip ?_
        refine run_inBlock ?_
        refine run_region ?_
        refine k_val (ev_addN (n := 1) rfl rfl rfl rfl (by omega)) rfl ?_
        refine k_val (ev_move rfl) rfl ?_
        exact next (i + 1, L2) _ (by simp only; omega) ⟨by simp only; omega, hJ2⟩ ⟨rfl, rfl, rfl, rfl, rfl, trivial⟩
      · have hie : i = fl.length := by omega
        subst hie
        refine run_seq ?_
        refine run_region ?_
        refine k_val (ev_bF (ev_lt rfl rfl) (by first | assumption | omega)) rfl ?_
        refine run_seq ?_
        refine run_cond (t := false) rfl ?_
        exact run_exit rfl (out L1 _ hJ trivial)
    · intro L1 hJ
      subst hX
      exact end_specM [dd] Tryz.func110 rfl rfl ⟨Blk nb2 (.cells #[.slice base2 fl.length cap2] 178 (0, 0)) :: (M2 ++ M1), L1, hJ, rfl⟩ fun w hw => hw
  · intro w hw
    refine (sat_ownNil (e := 9) (sz := 1) (sat_ownNil (e := 90) (sz := 1) hw)).perm ?_
    exact perm_pick [2, 5, 0, 3, 0, 0, 0] _
end Go.PS
