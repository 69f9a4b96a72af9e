/-
  A round, walked.
  Conditions: each contract's own.
-/
import Derived.Test.YtopkabhgkhjecaaGreatEvictP
namespace Go.PS
open Go Go.Proofs Go.Shelf
set_option maxRecDepth 10000

section
variable {G : World} {L F : List HP} {b bp bd bx : Nat} {e : Rd}

theorem rkV_func {pol : Int} (hp : pol = 1 ∨ pol = 2) (b bx : Nat) : ∃ f us cap, rkV pol b bx = .func f us cap := by
  rcases hp with rfl | rfl
  · exact ⟨_, _, _, rkV_1⟩
  · exact ⟨_, _, _, rkV_2⟩
theorem round_spec {pol : Int} (hp : pol = 1 ∨ pol = 2) (h : e.Ok) (hq : e.s.cfg.samples ≤ 1048576) :
    Spec Tryz.prog G 47 [ptrV b, ptrV bp, ptrV bd, .agg #[.bool (decide (pol = 1)), rkV pol b bx]] (SpA b e.s :: PoolA bp e.p :: SrcA bd e.ds :: Blk bx (.cells #[ptrV b] 26 (0, 0)) :: F) fun _ L' =>
      L' = SpA b (e.round pol).s :: PoolA bp (e.round pol).p :: SrcA bd (e.round pol).ds :: Blk bx (.cells #[ptrV b] 26 (0, 0)) :: F := by
  obtain ⟨f, us, cp, hf⟩ := rkV_func hp b bx
  rw [hf]
  have hpl := h.p.hi
  have hpn := h.p.len
  refine spec_of_run Tryz.func47 rfl rfl ?_
  refine run_seq ?_
  refine run_region ?_
  refine k_boxAgg rfl rfl ?_
  intro nb1
  refine run_seq ?_
  refine run_seq ?_
  refine run_region ?_
  refine k_val (ev_move rfl) rfl ?_
  refine OpK.perm (L' := PoolA bp e.p :: Blk nb1 (.cells #[.bool (decide (pol = 1)), .func f us cp] 100 (0, 0)) :: SpA b e.s :: SrcA bd e.ds :: Blk bx (.cells #[ptrV b] 26 (0, 0)) :: F) (by exact perm_pick [2, 0, 0, 0, 0] _) ?_
  refine k_call rfl rfl (by kernel_rfl) (cands_spec (by omega)) ?_
  rintro u _ rfl
  refine RunOps.exm (fun _ hw => own_x hw) ?_
  rintro ⟨base, cap, M⟩ ⟨rfl, g1, g2, g3, _⟩
  simp only at g1 g2 g3 ⊢
  refine RunOps.perm (L' := PoolA bp e.p :: Blk nb1 (.cells #[.bool (decide (pol = 1)), .func f us cp] 100 (0, 0)) :: SpA b e.s :: SrcA bd e.ds :: Blk bx (.cells #[ptrV b] 26 (0, 0)) :: (M ++ F)) (List.perm_append_comm_assoc M [_, _, _, _, _] F) ?_
  refine RunOps.perm (L' := SpA b e.s :: PoolA bp e.p :: SrcA bd e.ds :: Blk nb1 (.cells #[.bool (decide (pol = 1)), .func f us cp] 100 (0, 0)) :: Blk bx (.cells #[ptrV b] 26 (0, 0)) :: (M ++ F)) (by exact perm_pick [2, 0, 1, 0, 0] _) ?_
  refine k_val (ev_lenSlice (e := 53) rfl (by kernel_rfl)) rfl ?_
  refine k_val (ev_move rfl) rfl ?_
  refine run_while (ι := Nat) (κ := Unit) (fun i => e.p.row.length - i) (fun i => i ≤ e.p.row.length)
    (fun i => [(0, ptrV b), (1, ptrV bp), (2, ptrV bd), (7, ptrV nb1), (17, .slice base e.p.row.length cap), (18, .int .i64 e.p.row.length), (19, .int .i64 i)])
    (fun i => SpA b ((e.p.row.take i).foldl (Rd.refresh1 pol) e).s :: PoolA bp ((e.p.row.take i).foldl (Rd.refresh1 pol) e).p :: SrcA bd ((e.p.row.take i).foldl (Rd.refresh1 pol) e).ds :: Blk nb1 (.cells #[.bool (decide (pol = 1)), .func f us cp] 100 (0, 0)) :: Blk bx (.cells #[ptrV b] 26 (0, 0)) :: (M ++ F))
    (fun _ => True) (fun _ => [(0, ptrV b), (1, ptrV bp), (2, ptrV bd), (7, ptrV nb1)])
    (fun _ => SpA b (e.p.row.foldl (Rd.refresh1 pol) e).s :: PoolA bp (e.p.row.foldl (Rd.refresh1 pol) e).p :: SrcA bd (e.p.row.foldl (Rd.refresh1 pol) e).ds :: Blk nb1 (.cells #[.bool (decide (pol = 1)), .func f us cp] 100 (0, 0)) :: Blk bx (.cells #[ptrV b] 26 (0, 0)) :: (M ++ F)) 0 (Nat.zero_le _) ⟨rfl, rfl, rfl, rfl, rfl, rfl, rfl, trivial⟩ rfl ?_ ?_
  · rintro i hi next out
    by_cases hlt : i < e.p.row.length
    · obtain ⟨y, hy⟩ : ∃ y, e.p.row[i]? = some y := ⟨_, List.getElem?_eq_getElem hlt⟩
      have hyi : e.p.row[i] = y := (List.getElem?_eq_some_iff.1 hy).2
      have hym : y ∈ e.p.row := List.mem_of_getElem? hy
      have hyk := h.p.key y hym
      have hE := Rd.Ok.refresh pol (e.p.row.take i) h (fun x hx => h.p.key x (List.mem_of_mem_take hx))
      have hE1 := hE.refresh1 pol hyk
      have hstep : (e.p.row.take (i + 1)).foldl (Rd.refresh1 pol) e = ((e.p.row.take i).foldl (Rd.refresh1 pol) e).refresh1 pol y := by
        rw [List.take_succ_eq_append_getElem hlt, hyi, List.foldl_append]; rfl
      have hnx := next (i + 1)
      simp only [hstep] at hnx
      clear next
      generalize (e.p.row.take i).foldl (Rd.refresh1 pol) e = ei at *
      rcases g3 with ⟨_, h0, _⟩ | ⟨b', C, rfl, hC, hCs, hM⟩
      · omega
      have hrow := row_elem (enc := candV) (k := 2) (fun _ => rfl) (by decide) hC hy
      haveI := hM F
      refine run_seq ?_
      refine run_region ?_
      refine k_val (ev_bT (ev_lt rfl rfl) (by first | assumption | omega)) rfl ?_
      refine run_seq ?_
      refine run_cond (t := true) rfl ?_
      refine run_skip ?_
      refine run_seq ?_
      refine run_block ?_
      refine run_seq ?_
      refine run_region ?_
      refine k_val (ev_indexAddrO (e := 53) 2 rfl rfl (by first | assumption | omega) (by kernel_rfl) (by kernel_rfl)) rfl ?_
      refine k_val (ev_loadRow (i := i) (off := 0 + i * 2) 2 rfl (Nat.zero_add _) hrow (by kernel_rfl)) rfl ?_
      refine k_alloc (#[.string ByteArray.empty, .int .u64 0]) (by kernel_rfl) rfl ?_
      intro nb2
      refine k_storeAllS 2 rfl rfl rfl rfl rfl (by kernel_rfl) ?_
      refine run_seq ?_
      refine run_region ?_
      refine k_val (ev_fieldAddr0 1 rfl (by kernel_rfl)) rfl ?_
      refine k_val (ev_load rfl (by kernel_rfl)) rfl ?_
      refine k_val (ev_fieldAddr0 0 rfl (by kernel_rfl)) rfl ?_
      refine k_val (ev_load rfl (by kernel_rfl)) rfl ?_
      refine RunOps.perm (L' := SpA b ei.s :: Blk bx (.cells #[ptrV b] 26 (0, 0)) :: Blk nb2 (.cells (candV y).toArray 53 (0, 0)) :: PoolA bp ei.p :: SrcA bd ei.ds :: Blk nb1 (.cells #[.bool (decide (pol = 1)), .func f us cp] 100 (0, 0)) :: (M ++ F)) (by exact perm_pick [1, 4, 0, 0, 0, 0] _) ?_
      have hrk := rank_spec (G := G) (b := b) (bx := bx) (F := Blk nb2 (.cells (candV y).toArray 53 (0, 0)) :: PoolA bp ei.p :: SrcA bd ei.ds :: Blk nb1 (.cells #[.bool (decide (pol = 1)), .func f us cp] 100 (0, 0)) :: (M ++ F)) (key := y.1) hp hE.s hE.v (by omega)
      rw [hf] at hrk
      refine k_callF rfl rfl rfl hrk ?_
      rintro _ _ ⟨rfl, rfl⟩
      clear hrk
      have hpi := hE.p.hi
      have hpj := hE.p.len
      obtain ⟨⟨r, th⟩, hr⟩ : ∃ rk, ei.s.rank pol y.1 = rk := ⟨_, rfl⟩
      rw [hr]
      cases th with
      | true =>
        simp only [Rd.refresh1_T hr] at hnx
        simp only
        refine k_val (ev_move rfl) rfl ?_
        refine k_val (ev_extract rfl rfl) rfl ?_
        refine k_val (ev_extract rfl rfl) rfl ?_
        refine k_val (ev_assign rfl) rfl ?_
        refine k_val (ev_assign rfl) rfl ?_
        refine run_seq ?_
        refine run_region ?_
        refine k_val (ev_move rfl) rfl ?_
        refine run_cond (t := true) rfl ?_
        refine run_region ?_
        refine k_val (ev_move rfl) rfl ?_
        refine k_val (ev_fieldAddr0 0 rfl (by kernel_rfl)) rfl ?_
        refine k_val (ev_load rfl (by kernel_rfl)) rfl ?_
        refine k_val (ev_move rfl) rfl ?_
        refine k_val (ev_build1 [.string ByteArray.empty, .int .u64 0] [0, 1] (by kernel_rfl) (by kernel_rfl) rfl rfl rfl) rfl ?_
        refine RunOps.perm (L' := PoolA bp ei.p :: SpA b (ei.s.met y.1) :: Blk bx (.cells #[ptrV b] 26 (0, 0)) :: Blk nb2 (.cells (candV y).toArray 53 (0, 0)) :: SrcA bd ei.ds :: Blk nb1 (.cells #[.bool (decide (pol = 1)), .func f us cp] 100 (0, 0)) :: (M ++ F)) (by exact perm_pick [3, 0, 0, 0, 0, 0] _) ?_
        refine k_call rfl rfl (by kernel_rfl) (offer_spec (p := ei.p) (x := (y.1, r)) (by omega) hE.p.lo) ?_
        rintro _ _ ⟨rfl, X, Y, rfl⟩
        refine run_inBlock ?_
        refine run_region ?_
        refine k_val (ev_addN (n := 1) rfl rfl rfl rfl (by omega)) rfl ?_
        refine k_val (ev_move rfl) rfl ?_
        refine Run.mem (L' := SpA b (ei.s.met y.1) :: PoolA bp (ei.p.offer (y.1, r)).1 :: SrcA bd ei.ds :: Blk nb1 (.cells #[.bool (decide (pol = 1)), .func f us cp] 100 (0, 0)) :: Blk bx (.cells #[ptrV b] 26 (0, 0)) :: (M ++ F)) ?_ (by exact fun _ hw => sat_pick [3, 2, 4, 4, 2] 3 hw)
        refine hnx _ (by omega) (by omega) ?_
        exact ⟨rfl, rfl, rfl, rfl, rfl, rfl, rfl, trivial⟩
      | false =>
        simp only [Rd.refresh1_F hr] at hnx
        simp only
        refine k_val (ev_move rfl) rfl ?_
        refine k_val (ev_extract rfl rfl) rfl ?_
        refine k_val (ev_extract rfl rfl) rfl ?_
        refine k_val (ev_assign rfl) rfl ?_
        refine k_val (ev_assign rfl) rfl ?_
        refine run_seq ?_
        refine run_region ?_
        refine k_val (ev_move rfl) rfl ?_
        refine run_cond (t := false) rfl ?_
        refine run_region ?_
        refine k_val (ev_move rfl) rfl ?_
        refine k_val (ev_fieldAddr0 0 rfl (by kernel_rfl)) rfl ?_
        refine k_val (ev_load rfl (by kernel_rfl)) rfl ?_
        refine RunOps.perm (L' := PoolA bp ei.p :: SpA b (ei.s.met y.1) :: Blk bx (.cells #[ptrV b] 26 (0, 0)) :: Blk nb2 (.cells (candV y).toArray 53 (0, 0)) :: SrcA bd ei.ds :: Blk nb1 (.cells #[.bool (decide (pol = 1)), .func f us cp] 100 (0, 0)) :: (M ++ F)) (by exact perm_pick [3, 0, 0, 0, 0, 0] _) ?_
        refine k_call rfl rfl (by kernel_rfl) (drop_spec (p := ei.p) (by omega)) ?_
        rintro _ _ rfl
        refine run_inBlock ?_
        refine run_region ?_
        refine k_val (ev_addN (n := 1) rfl rfl rfl rfl (by omega)) rfl ?_
        refine k_val (ev_move rfl) rfl ?_
        refine Run.mem (L' := SpA b (ei.s.met y.1) :: PoolA bp { ei.p with row := dropK ei.p.row y.1 } :: SrcA bd ei.ds :: Blk nb1 (.cells #[.bool (decide (pol = 1)), .func f us cp] 100 (0, 0)) :: Blk bx (.cells #[ptrV b] 26 (0, 0)) :: (M ++ F)) ?_ (by exact fun _ hw => sat_pick [1, 0, 2, 2, 0] 1 hw)
        refine hnx _ (by omega) (by omega) ?_
        exact ⟨rfl, rfl, rfl, rfl, rfl, rfl, rfl, trivial⟩
    · have hie : i = e.p.row.length := by omega
      subst hie
      rw [List.take_length]
      refine run_seq ?_
      refine run_region ?_
      refine k_val (ev_bF (ev_lt rfl rfl) (by first | assumption | omega)) rfl ?_
      refine run_seq ?_
      refine run_cond (t := false) rfl ?_
      refine run_exit rfl (out () _ trivial ?_)
      exact ⟨rfl, rfl, rfl, rfl, trivial⟩
  · rintro _ -
    have hE := Rd.Ok.refresh pol e.p.row h h.p.key
    have hround : e.round pol = (e.p.row.foldl (Rd.refresh1 pol) e).draws pol (e.p.row.foldl (Rd.refresh1 pol) e).s.cfg.samples.toNat := by
      unfold Rd.round; rw [Rd.refresh_cfg]
    rw [hround]
    have hq2 : (e.p.row.foldl (Rd.refresh1 pol) e).s.cfg.samples ≤ 1048576 := by rw [Rd.refresh_cfg]; exact hq
    generalize e.p.row.foldl (Rd.refresh1 pol) e = ei at *
    refine run_seq ?_
    refine run_region ?_
    refine k_val (ev_move rfl) rfl ?_
    refine k_call rfl rfl (by kernel_rfl) configS_spec ?_
    rintro _ _ ⟨rfl, rfl⟩
    generalize hsm : ei.s.cfg.samples = smp at *
    refine k_val (ev_field 3 rfl (by kernel_rfl)) rfl ?_
    refine k_val (ev_move rfl) rfl ?_
    refine run_while (ι := Nat) (κ := Unit) (fun j => smp.toNat - j) (fun j => j ≤ smp.toNat)
      (fun j => [(0, ptrV b), (1, ptrV bp), (2, ptrV bd), (7, ptrV nb1), (45, .int .i64 smp), (46, .int .i64 j)])
      (fun j => SpA b (ei.draws pol j).s :: PoolA bp (ei.draws pol j).p :: SrcA bd (ei.draws pol j).ds :: Blk nb1 (.cells #[.bool (decide (pol = 1)), .func f us cp] 100 (0, 0)) :: Blk bx (.cells #[ptrV b] 26 (0, 0)) :: (M ++ F))
      (fun _ => True) (fun _ => [])
      (fun _ => SpA b (ei.draws pol smp.toNat).s :: PoolA bp (ei.draws pol smp.toNat).p :: SrcA bd (ei.draws pol smp.toNat).ds :: Blk nb1 (.cells #[.bool (decide (pol = 1)), .func f us cp] 100 (0, 0)) :: Blk bx (.cells #[ptrV b] 26 (0, 0)) :: (M ++ F)) 0 (Nat.zero_le _) ⟨rfl, rfl, rfl, rfl, rfl, rfl, trivial⟩ rfl ?_ ?_
    · rintro j hj next out
      by_cases hlt : (j : Int) < smp
      · have hEj := Rd.Ok.draws pol j hE
        have hE1 := hEj.draw1 pol
        have hnx := next (j + 1)
        simp only [Rd.draws_succ] at hnx
        clear next
        generalize ei.draws pol j = ej at *
        refine run_seq ?_
        refine run_region ?_
        refine k_val (ev_bT (ev_lt rfl rfl) (by first | assumption | omega)) rfl ?_
        refine run_seq ?_
        refine run_cond (t := true) rfl ?_
        refine run_skip ?_
        refine run_seq ?_
        refine run_block ?_
        refine run_seq ?_
        refine run_lazy (Blk nb1 (.cells #[.bool (decide (pol = 1)), .func f us cp] 100 (0, 0)) :: Blk bx (.cells #[ptrV b] 26 (0, 0)) :: (M ++ F)) (by kernel_rfl) ?_
        refine m_val 0 rfl (by kernel_rfl) (by kernel_rfl) (by kernel_rfl) (ev_move rfl) rfl ?_
        refine m_val 1 rfl (by kernel_rfl) (by kernel_rfl) (by kernel_rfl) (ev_fieldAddr0 0 rfl (by kernel_rfl)) rfl ?_
        refine m_val 2 rfl (by kernel_rfl) (by kernel_rfl) (by kernel_rfl) (ev_load rfl (by kernel_rfl)) rfl ?_
        refine m_val 3 rfl (by kernel_rfl) (by kernel_rfl) (by kernel_rfl) (ev_move rfl) rfl ?_
        refine m_loud1 4 (by kernel_rfl) rfl (.inr fun _ hw => sat_pick [3, 3] 3 hw) ?_
        refine OpK.perm (L' := SrcA bd ej.ds :: SpA b ej.s :: PoolA bp ej.p :: Blk nb1 (.cells #[.bool (decide (pol = 1)), .func f us cp] 100 (0, 0)) :: Blk bx (.cells #[ptrV b] 26 (0, 0)) :: (M ++ F)) (by exact perm_pick [2, 0, 0, 0, 0] _) ?_
        refine k_call rfl rfl (by kernel_rfl) next_spec ?_
        rintro _ _ ⟨rfl, rfl⟩
        refine m_loud1 5 (by kernel_rfl) rfl (.inr fun _ hw => sat_pick [3, 3] 3 hw) ?_
        refine OpK.perm (L' := SpA b ej.s :: SrcA bd ej.ds.tail :: PoolA bp ej.p :: Blk nb1 (.cells #[.bool (decide (pol = 1)), .func f us cp] 100 (0, 0)) :: Blk bx (.cells #[ptrV b] 26 (0, 0)) :: (M ++ F)) (by exact perm_pick [1, 0, 0, 0, 0] _) ?_
        have hnd := Rd.nextD_ok hEj.d
        have hcast : ((nextD ej.ds).toNat : Int) = nextD ej.ds := Int.toNat_of_nonneg hnd.1
        have hs := sampleS_spec (G := G) (b := b) (F := SrcA bd ej.ds.tail :: PoolA bp ej.p :: Blk nb1 (.cells #[.bool (decide (pol = 1)), .func f us cp] 100 (0, 0)) :: Blk bx (.cells #[ptrV b] 26 (0, 0)) :: (M ++ F)) (decide (pol = 1)) (nextD ej.ds).toNat (by omega) hEj.s hEj.v
        rw [hcast] at hs
        refine k_call rfl rfl (by kernel_rfl) hs ?_
        rintro _ _ ⟨rfl, rfl⟩
        clear hs
        have hswo : ej.s.swept.Ok ∧ ej.s.swept.vol ≤ ej.s.vol := hEj.s.sweep hEj.v 9223372036854775807
        have hev := hEj.v
        cases hk : ej.s.sampled (decide (pol = 1)) (nextD ej.ds).toNat with
        | none =>
          simp only [Rd.draw1_N hk] at hnx
          simp only [pickedV]
          refine m_val 6 rfl (by kernel_rfl) (by kernel_rfl) (by kernel_rfl) (ev_move rfl) rfl ?_
          refine m_val 7 rfl (by kernel_rfl) (by kernel_rfl) (by kernel_rfl) (ev_extract rfl rfl) rfl ?_
          refine m_val 8 rfl (by kernel_rfl) (by kernel_rfl) (by kernel_rfl) (ev_extract rfl rfl) rfl ?_
          refine m_val 9 rfl (by kernel_rfl) (by kernel_rfl) (by kernel_rfl) (ev_assign rfl) rfl ?_
          refine m_val 10 rfl (by kernel_rfl) (by kernel_rfl) (by kernel_rfl) (ev_assign rfl) rfl ?_
          refine m_end (by kernel_rfl) (.inr fun _ hw => sat_pick [3, 3] 3 hw) ?_
          refine run_seq ?_
          refine run_region ?_
          refine k_val (ev_move rfl) rfl ?_
          refine run_cond (t := false) rfl ?_
          refine run_skip ?_
          refine run_inBlock ?_
          refine run_region ?_
          refine k_val (ev_addN (n := 1) rfl rfl rfl rfl (by omega)) rfl ?_
          refine k_val (ev_move rfl) rfl ?_
          refine Run.mem (L' := SpA b ej.s.swept :: PoolA bp ej.p :: SrcA bd ej.ds.tail :: Blk nb1 (.cells #[.bool (decide (pol = 1)), .func f us cp] 100 (0, 0)) :: Blk bx (.cells #[ptrV b] 26 (0, 0)) :: (M ++ F)) ?_ (by exact fun _ hw => sat_pick [0, 1, 0, 0, 0] 0 hw)
          refine hnx _ (by omega) (by omega) ?_
          exact ⟨rfl, rfl, rfl, rfl, rfl, rfl, trivial⟩
        | some k =>
          simp only [Rd.draw1_S hk] at hnx
          have hks := hEj.s.sampled hEj.v hk
          simp only [pickedV]
          refine m_val 6 rfl (by kernel_rfl) (by kernel_rfl) (by kernel_rfl) (ev_move rfl) rfl ?_
          refine m_val 7 rfl (by kernel_rfl) (by kernel_rfl) (by kernel_rfl) (ev_extract rfl rfl) rfl ?_
          refine m_val 8 rfl (by kernel_rfl) (by kernel_rfl) (by kernel_rfl) (ev_extract rfl rfl) rfl ?_
          refine m_val 9 rfl (by kernel_rfl) (by kernel_rfl) (by kernel_rfl) (ev_assign rfl) rfl ?_
          refine m_val 10 rfl (by kernel_rfl) (by kernel_rfl) (by kernel_rfl) (ev_assign rfl) rfl ?_
          refine m_end (by kernel_rfl) (.inr fun _ hw => sat_pick [3, 3] 3 hw) ?_
          refine run_seq ?_
          refine run_region ?_
          refine k_val (ev_move rfl) rfl ?_
          refine run_cond (t := true) rfl ?_
          refine run_seq ?_
          refine run_region ?_
          refine k_val (ev_fieldAddr0 1 rfl (by kernel_rfl)) rfl ?_
          refine k_val (ev_load rfl (by kernel_rfl)) rfl ?_
          refine k_val (ev_move rfl) rfl ?_
          refine RunOps.perm (L' := SpA b ej.s.swept :: Blk bx (.cells #[ptrV b] 26 (0, 0)) :: SrcA bd ej.ds.tail :: PoolA bp ej.p :: Blk nb1 (.cells #[.bool (decide (pol = 1)), .func f us cp] 100 (0, 0)) :: (M ++ F)) (by exact perm_pick [0, 3, 0, 0, 0] _) ?_
          have hrk := rank_spec (G := G) (b := b) (bx := bx) (F := SrcA bd ej.ds.tail :: PoolA bp ej.p :: Blk nb1 (.cells #[.bool (decide (pol = 1)), .func f us cp] 100 (0, 0)) :: (M ++ F)) (key := k) hp hswo.1 (by omega) (by omega)
          rw [hf] at hrk
          refine k_callF rfl rfl rfl hrk ?_
          rintro _ _ ⟨rfl, rfl⟩
          clear hrk
          refine k_val (ev_move rfl) rfl ?_
          refine k_val (ev_extract rfl rfl) rfl ?_
          refine k_val (ev_extract rfl rfl) rfl ?_
          refine k_val (ev_assign rfl) rfl ?_
          refine k_val (ev_assign rfl) rfl ?_
          refine run_region ?_
          refine k_val (ev_move rfl) rfl ?_
          refine k_val (ev_move rfl) rfl ?_
          refine k_val (ev_move rfl) rfl ?_
          refine k_val (ev_build1 [.string ByteArray.empty, .int .u64 0] [0, 1] (by kernel_rfl) (by kernel_rfl) rfl rfl rfl) rfl ?_
          have hpi := hEj.p.hi
          have hpj := hEj.p.len
          refine RunOps.perm (L' := PoolA bp ej.p :: SpA b (ej.s.swept.met k) :: SrcA bd ej.ds.tail :: Blk nb1 (.cells #[.bool (decide (pol = 1)), .func f us cp] 100 (0, 0)) :: Blk bx (.cells #[ptrV b] 26 (0, 0)) :: (M ++ F)) (by exact perm_pick [3, 0, 1, 1, 0] _) ?_
          refine k_call rfl rfl (by kernel_rfl) (offer_spec (p := ej.p) (x := (k, (ej.s.swept.rank pol k).1)) (by omega) hEj.p.lo) ?_
          rintro _ _ ⟨rfl, X, Y, rfl⟩
          refine run_inBlock ?_
          refine run_region ?_
          refine k_val (ev_addN (n := 1) rfl rfl rfl rfl (by omega)) rfl ?_
          refine k_val (ev_move rfl) rfl ?_
          refine Run.mem (L' := SpA b (ej.s.swept.met k) :: PoolA bp (ej.p.offer (k, (ej.s.swept.rank pol k).1)).1 :: SrcA bd ej.ds.tail :: Blk nb1 (.cells #[.bool (decide (pol = 1)), .func f us cp] 100 (0, 0)) :: Blk bx (.cells #[ptrV b] 26 (0, 0)) :: (M ++ F)) ?_ (by exact fun _ hw => sat_pick [3, 2, 2, 2, 2] 2 hw)
          refine hnx _ (by omega) (by omega) ?_
          exact ⟨rfl, rfl, rfl, rfl, rfl, rfl, trivial⟩
      · have hje : j = smp.toNat := by omega
        subst hje
        refine run_seq ?_
        refine run_region ?_
        refine k_val (ev_bF (ev_lt rfl rfl) (by first | assumption | omega)) rfl ?_
        refine run_seq ?_
        refine run_cond (t := false) rfl ?_
        refine run_exit rfl (out () _ trivial trivial)
    · rintro _ -
      skip
      refine Run.mem (L' := SpA b (ei.draws pol smp.toNat).s :: PoolA bp (ei.draws pol smp.toNat).p :: SrcA bd (ei.draws pol smp.toNat).ds :: Blk bx (.cells #[ptrV b] 26 (0, 0)) :: F) ?_ ?_
      · exact end_spec Tryz.func47 rfl rfl rfl
      · intro w hw
        have h1 : Sat G w (SpA b (ei.draws pol smp.toNat).s :: PoolA bp (ei.draws pol smp.toNat).p :: SrcA bd (ei.draws pol smp.toNat).ds :: Blk nb1 (.cells #[.bool (decide (pol = 1)), .func f us cp] 100 (0, 0)) :: Blk bx (.cells #[ptrV b] 26 (0, 0)) :: F) := (hw.perm (List.perm_append_comm_assoc [_, _, _, _, _] M F)).append_right
        clear hw
        revert w; exact fun _ hw => sat_pick [0, 0, 0, 1] 1 hw
end
end Go.PS
