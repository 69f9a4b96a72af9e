/-
  Enforce and Round, walked.
  Conditions: each contract's own.
-/
import Derived.Test.YtopkabhgkhjecaaGreatAliveP
namespace Go.PS
open Go Go.Proofs Go.Shelf
set_option maxRecDepth 10000

section
variable {G : World} {L F : List HP} {b bp bd : Nat} {e : Rd}

theorem enforce_nil {a0 a1 a2 : Option Addr} (h : a0 = none ∨ a1 = none ∨ a2 = none) : Spec Tryz.prog G 12 [.pointer a0, .pointer a1, .pointer a2] L fun v L' => v = .tuple #[.int .i64 0, .int .i64 1] ∧ L' = L := by
  refine spec_of_run Tryz.func12 rfl rfl ?_
  cases a0 with
  | none =>
    refine run_seq ?_
    refine run_region ?_
    refine k_val (ev_assign rfl) rfl ?_
    refine k_val (ev_assign rfl) rfl ?_
    refine run_seq ?_
    refine run_seq ?_
    refine run_region ?_
    refine k_val (ev_move rfl) rfl ?_
    refine k_val (ev_eqNil rfl rfl (by kernel_rfl)) rfl ?_
    refine k_val (ev_move rfl) rfl ?_
    refine k_skip rfl rfl rfl rfl ?_
    refine k_skip rfl rfl rfl rfl ?_
    refine k_val (ev_pickT rfl rfl) rfl ?_
    refine k_val (ev_move rfl) rfl ?_
    refine k_skip rfl rfl rfl rfl ?_
    refine k_skip rfl rfl rfl rfl ?_
    refine k_val (ev_pickT rfl rfl) rfl ?_
    refine run_cond (t := true) rfl ?_
    refine run_seq ?_
    refine run_region ?_
    refine k_val (ev_assign rfl) rfl ?_
    refine k_val (ev_assign rfl) rfl ?_
    exact ret_spec Tryz.func12 rfl rfl ⟨rfl, rfl⟩
  | some a0 =>
    cases a1 with
    | none =>
      refine run_seq ?_
      refine run_region ?_
      refine k_val (ev_assign rfl) rfl ?_
      refine k_val (ev_assign rfl) rfl ?_
      refine run_seq ?_
      refine run_seq ?_
      refine run_region ?_
      refine k_val (ev_move rfl) rfl ?_
      refine k_val (ev_eqNil rfl rfl (by kernel_rfl)) rfl ?_
      refine k_val (ev_move rfl) rfl ?_
      refine k_guard rfl rfl rfl ?_
      refine k_val (ev_move rfl) rfl ?_
      refine k_guard rfl rfl rfl ?_
      refine k_val (ev_eqNil rfl rfl (by kernel_rfl)) rfl ?_
      refine k_val (ev_pickF rfl rfl) rfl ?_
      refine k_val (ev_move rfl) rfl ?_
      refine k_skip rfl rfl rfl rfl ?_
      refine k_skip rfl rfl rfl rfl ?_
      refine k_val (ev_pickT rfl rfl) rfl ?_
      refine run_cond (t := true) rfl ?_
      refine run_seq ?_
      refine run_region ?_
      refine k_val (ev_assign rfl) rfl ?_
      refine k_val (ev_assign rfl) rfl ?_
      exact ret_spec Tryz.func12 rfl rfl ⟨rfl, rfl⟩
    | some a1 =>
      cases a2 with
      | none =>
        refine run_seq ?_
        refine run_region ?_
        refine k_val (ev_assign rfl) rfl ?_
        refine k_val (ev_assign rfl) rfl ?_
        refine run_seq ?_
        refine run_seq ?_
        refine run_region ?_
        refine k_val (ev_move rfl) rfl ?_
        refine k_val (ev_eqNil rfl rfl (by kernel_rfl)) rfl ?_
        refine k_val (ev_move rfl) rfl ?_
        refine k_guard rfl rfl rfl ?_
        refine k_val (ev_move rfl) rfl ?_
        refine k_guard rfl rfl rfl ?_
        refine k_val (ev_eqNil rfl rfl (by kernel_rfl)) rfl ?_
        refine k_val (ev_pickF rfl rfl) rfl ?_
        refine k_val (ev_move rfl) rfl ?_
        refine k_guard rfl rfl rfl ?_
        refine k_val (ev_move rfl) rfl ?_
        refine k_guard rfl rfl rfl ?_
        refine k_val (ev_eqNil rfl rfl (by kernel_rfl)) rfl ?_
        refine k_val (ev_pickF rfl rfl) rfl ?_
        refine run_cond (t := true) rfl ?_
        refine run_seq ?_
        refine run_region ?_
        refine k_val (ev_assign rfl) rfl ?_
        refine k_val (ev_assign rfl) rfl ?_
        exact ret_spec Tryz.func12 rfl rfl ⟨rfl, rfl⟩
      | some a2 => simp at h
theorem round11_nil {a0 a1 a2 : Option Addr} (h : a0 = none ∨ a1 = none ∨ a2 = none) : Spec Tryz.prog G 11 [.pointer a0, .pointer a1, .pointer a2] L fun _ L' => L' = L := by
  refine spec_of_run Tryz.func11 rfl rfl ?_
  cases a0 with
  | none =>
    refine run_seq ?_
    refine run_seq ?_
    refine run_region ?_
    refine k_val (ev_move rfl) rfl ?_
    refine k_val (ev_eqNil rfl rfl (by kernel_rfl)) rfl ?_
    refine k_val (ev_move rfl) rfl ?_
    refine k_skip rfl rfl rfl rfl ?_
    refine k_skip rfl rfl rfl rfl ?_
    refine k_val (ev_pickT rfl rfl) rfl ?_
    refine k_val (ev_move rfl) rfl ?_
    refine k_skip rfl rfl rfl rfl ?_
    refine k_skip rfl rfl rfl rfl ?_
    refine k_val (ev_pickT rfl rfl) rfl ?_
    refine run_cond (t := true) rfl ?_
    exact ret_spec Tryz.func11 rfl rfl rfl
  | some a0 =>
    cases a1 with
    | none =>
      refine run_seq ?_
      refine run_seq ?_
      refine run_region ?_
      refine k_val (ev_move rfl) rfl ?_
      refine k_val (ev_eqNil rfl rfl (by kernel_rfl)) rfl ?_
      refine k_val (ev_move rfl) rfl ?_
      refine k_guard rfl rfl rfl ?_
      refine k_val (ev_move rfl) rfl ?_
      refine k_guard rfl rfl rfl ?_
      refine k_val (ev_eqNil rfl rfl (by kernel_rfl)) rfl ?_
      refine k_val (ev_pickF rfl rfl) rfl ?_
      refine k_val (ev_move rfl) rfl ?_
      refine k_skip rfl rfl rfl rfl ?_
      refine k_skip rfl rfl rfl rfl ?_
      refine k_val (ev_pickT rfl rfl) rfl ?_
      refine run_cond (t := true) rfl ?_
      exact ret_spec Tryz.func11 rfl rfl rfl
    | some a1 =>
      cases a2 with
      | none =>
        refine run_seq ?_
        refine run_seq ?_
        refine run_region ?_
        refine k_val (ev_move rfl) rfl ?_
        refine k_val (ev_eqNil rfl rfl (by kernel_rfl)) rfl ?_
        refine k_val (ev_move rfl) rfl ?_
        refine k_guard rfl rfl rfl ?_
        refine k_val (ev_move rfl) rfl ?_
        refine k_guard rfl rfl rfl ?_
        refine k_val (ev_eqNil rfl rfl (by kernel_rfl)) rfl ?_
        refine k_val (ev_pickF rfl rfl) rfl ?_
        refine k_val (ev_move rfl) rfl ?_
        refine k_guard rfl rfl rfl ?_
        refine k_val (ev_move rfl) rfl ?_
        refine k_guard rfl rfl rfl ?_
        refine k_val (ev_eqNil rfl rfl (by kernel_rfl)) rfl ?_
        refine k_val (ev_pickF rfl rfl) rfl ?_
        refine run_cond (t := true) rfl ?_
        exact ret_spec Tryz.func11 rfl rfl rfl
      | some a2 => simp at h

theorem enforce_spec (h : e.Ok) (hm : 1 ≤ e.p.most) (hq : e.s.cfg.policy = 1 ∨ e.s.cfg.policy = 2 → 1 ≤ e.s.cfg.samples) (hq2 : e.s.cfg.samples ≤ 1048576) :
    Spec Tryz.prog G 12 [ptrV b, ptrV bp, ptrV bd] (SpA b e.s :: PoolA bp e.p :: SrcA bd e.ds :: F) fun v L' =>
      (e.s.cfg.most = 0 ∨ e.s.used ≤ e.s.cfg.most) ∧ v = .tuple #[.int .i64 0, .int .i64 0] ∧ L' = SpA b e.s :: PoolA bp e.p :: SrcA bd e.ds :: F ∨
      ¬ (e.s.cfg.most = 0 ∨ e.s.used ≤ e.s.cfg.most) ∧ ∃ e' c r, Rd.Enf e.s.cfg.policy e.s.cfg.most { e with s := e.s.swept } 0 e' c r ∧ v = .tuple #[.int .i64 c, .int .i64 r] ∧ L' = SpA b e'.s :: PoolA bp e'.p :: SrcA bd e'.ds :: F := by
  refine spec_of_run Tryz.func12 rfl rfl ?_
  refine run_seq ?_
  refine run_region ?_
  refine k_val (ev_assign rfl) rfl ?_
  refine k_val (ev_assign rfl) rfl ?_
  refine run_seq ?_
  refine run_seq ?_
  refine run_region ?_
  refine k_val (ev_move rfl) rfl ?_
  refine k_val (ev_eqNil rfl rfl (by kernel_rfl)) rfl ?_
  refine k_val (ev_move rfl) rfl ?_
  refine k_guard rfl rfl rfl ?_
  refine k_val (ev_move rfl) rfl ?_
  refine k_guard rfl rfl rfl ?_
  refine k_val (ev_eqNil rfl rfl (by kernel_rfl)) rfl ?_
  refine k_val (ev_pickF rfl rfl) rfl ?_
  refine k_val (ev_move rfl) rfl ?_
  refine k_guard rfl rfl rfl ?_
  refine k_val (ev_move rfl) rfl ?_
  refine k_guard rfl rfl rfl ?_
  refine k_val (ev_eqNil rfl rfl (by kernel_rfl)) rfl ?_
  refine k_val (ev_pickF rfl rfl) rfl ?_
  refine run_cond (t := false) rfl ?_
  refine run_skip ?_
  refine run_seq ?_
  refine run_region ?_
  refine k_val (ev_move rfl) rfl ?_
  refine k_call rfl rfl (by kernel_rfl) configS_spec ?_
  rintro _ _ ⟨rfl, rfl⟩
  by_cases h0 : e.s.cfg.most = 0
  · refine k_val (ev_field 1 rfl (by kernel_rfl)) rfl ?_
    refine k_val (ev_assign rfl) rfl ?_
    refine run_seq ?_
    refine run_seq ?_
    refine run_region ?_
    refine k_val (ev_move rfl) rfl ?_
    refine k_val (ev_bT (ev_eqI rfl rfl) (by first | assumption | omega)) rfl ?_
    refine k_val (ev_move rfl) rfl ?_
    refine k_skip rfl rfl rfl rfl ?_
    refine k_skip rfl rfl rfl rfl ?_
    refine k_skip rfl rfl rfl rfl ?_
    refine k_skip rfl rfl rfl rfl ?_
    refine k_val (ev_pickT rfl rfl) rfl ?_
    refine run_cond (t := true) rfl ?_
    refine run_seq ?_
    refine run_region ?_
    refine k_val (ev_assign rfl) rfl ?_
    refine k_val (ev_assign rfl) rfl ?_
    exact ret_spec Tryz.func12 rfl rfl (.inl ⟨.inl h0, rfl, rfl⟩)
  refine k_val (ev_field 1 rfl (by kernel_rfl)) rfl ?_
  refine k_val (ev_assign rfl) rfl ?_
  refine run_seq ?_
  refine run_seq ?_
  refine run_region ?_
  refine k_val (ev_move rfl) rfl ?_
  refine k_val (ev_bF (ev_eqI rfl rfl) (by first | assumption | omega)) rfl ?_
  refine k_val (ev_move rfl) rfl ?_
  refine k_guard rfl rfl rfl ?_
  refine k_val (ev_move rfl) rfl ?_
  refine k_guard rfl rfl rfl ?_
  refine k_call rfl rfl (by kernel_rfl) usedS_spec ?_
  rintro _ _ ⟨rfl, rfl⟩
  by_cases h1 : e.s.used ≤ e.s.cfg.most
  · refine k_guard rfl rfl rfl ?_
    refine k_val (ev_move rfl) rfl ?_
    refine k_guard rfl rfl rfl ?_
    refine k_val (ev_bT (ev_le rfl rfl) (by first | assumption | omega)) rfl ?_
    refine k_val (ev_pickF rfl rfl) rfl ?_
    refine run_cond (t := true) rfl ?_
    refine run_seq ?_
    refine run_region ?_
    refine k_val (ev_assign rfl) rfl ?_
    refine k_val (ev_assign rfl) rfl ?_
    exact ret_spec Tryz.func12 rfl rfl (.inl ⟨.inr h1, rfl, rfl⟩)
  have hso := h.s.swept h.v
  have hswS : e.s.sweep 9223372036854775807 = e.s.swept := rfl
  have hcf := Sp.swept_cfg e.s
  refine k_guard rfl rfl rfl ?_
  refine k_val (ev_move rfl) rfl ?_
  refine k_guard rfl rfl rfl ?_
  refine k_val (ev_bF (ev_le rfl rfl) (by first | assumption | omega)) rfl ?_
  refine k_val (ev_pickF rfl rfl) rfl ?_
  refine run_cond (t := false) rfl ?_
  refine run_skip ?_
  refine run_seq ?_
  refine run_region ?_
  refine k_val (ev_move rfl) rfl ?_
  refine k_call rfl rfl (by kernel_rfl) (sweepS_spec (most := 9223372036854775807) h.s h.v) ?_
  rintro _ _ rfl
  rw [hswS]
  refine run_seq ?_
  refine run_region ?_
  refine k_val (ev_move rfl) rfl ?_
  refine k_call rfl rfl (by kernel_rfl) ranking_spec ?_
  rintro _ _ ⟨bx, X, rfl, rfl⟩
  rw [hcf]
  generalize hpol : e.s.cfg.policy = pol at *
  generalize hmo : e.s.cfg.most = most at *
  have hone := rkV_one pol b bx
  unfold Value.oneCell' at hone
  generalize hfv : rkV pol b bx = fv at *
  have hE0 : Rd.Ok { e with s := e.s.swept } := h.sweptR
  have hn0 : e.s.swept.main.n ≤ 1099511627776 := (hE0.s.bound hE0.v).1
  refine k_val (ev_move rfl) rfl ?_
  refine k_val (ev_extract rfl rfl) rfl ?_
  refine k_val (ev_extract rfl rfl) rfl ?_
  refine k_alloc (#[.bool false, .nilFunc]) (by kernel_rfl) rfl ?_
  intro nb1
  refine k_storeAllS 2 rfl rfl rfl rfl (by simp [*, Value.oneCell']) (by kernel_rfl) ?_
  refine k_val (ev_assign rfl) rfl ?_
  refine run_seq ?_
  refine run_region ?_
  refine k_val (ev_assign rfl) rfl ?_
  refine run_seq ?_
  refine Run.mem (L' := SpA b e.s.swept :: PoolA bp e.p :: SrcA bd e.ds :: Blk nb1 (.cells #[.bool (decide (pol = 1)), fv] 100 (0, 0)) :: Blk bx (.cells #[ptrV b] 26 (0, 0)) :: F) ?_ (by exact fun _ hw => sat_pick [1, 3, 3, 0, 1] 1 hw)
  refine run_while (ι := Rd × Nat) (κ := Rd × Nat) (fun z => z.1.s.main.n)
    (fun z => z.1.Ok ∧ z.1.s.cfg = e.s.cfg ∧ z.1.p.most = e.p.most ∧ z.2 + z.1.s.main.n ≤ 1099511627776 ∧ ∀ e' c' r, Rd.Enf pol most z.1 z.2 e' c' r → Rd.Enf pol most { e with s := e.s.swept } 0 e' c' r)
    (fun z => [(0, ptrV b), (1, ptrV bp), (2, ptrV bd), (8, .int .i64 most), (9, ptrV nb1), (10, .bool (decide (pol = 1 ∨ pol = 2))), (11, .int .i64 z.2)])
    (fun z => SpA b z.1.s :: PoolA bp z.1.p :: SrcA bd z.1.ds :: Blk nb1 (.cells #[.bool (decide (pol = 1)), fv] 100 (0, 0)) :: Blk bx (.cells #[ptrV b] 26 (0, 0)) :: F)
    (fun z => Rd.Enf pol most { e with s := e.s.swept } 0 z.1 z.2 0) (fun z => [(11, .int .i64 z.2)])
    (fun z => SpA b z.1.s :: PoolA bp z.1.p :: SrcA bd z.1.ds :: F) ({ e with s := e.s.swept }, 0) ⟨hE0, hcf, rfl, by simp only; omega, fun _ _ _ h => h⟩ ⟨rfl, rfl, rfl, rfl, rfl, rfl, rfl, trivial⟩ rfl ?_ ?_
  · rintro ⟨ei, c⟩ ⟨hE, hc, hmst, hcn, hEnf⟩ next out
    simp only at hE hc hmst hcn hEnf
    simp only
    refine run_seq ?_
    refine run_seq ?_
    refine run_region ?_
    refine k_val (ev_move rfl) rfl ?_
    refine k_call rfl rfl (by kernel_rfl) usedS_spec ?_
    rintro _ _ ⟨rfl, rfl⟩
    by_cases hu : most < ei.s.used
    · by_cases hp : pol = 1 ∨ pol = 2
      · rw [decide_eq_true hp]
        refine k_val (ev_move rfl) rfl ?_
        refine k_val (ev_bT (ev_gt rfl rfl) (by first | assumption | omega)) rfl ?_
        refine run_cond (t := true) rfl ?_
        refine run_skip ?_
        refine run_seq ?_
        refine run_block ?_
        refine run_seq ?_
        refine run_seq ?_
        refine run_region ?_
        refine k_val (ev_move rfl) rfl ?_
        refine run_cond (t := true) rfl ?_
        refine run_region ?_
        refine k_val (ev_move rfl) rfl ?_
        refine k_val (ev_fieldAddr0 0 rfl (by kernel_rfl)) rfl ?_
        refine k_val (ev_load rfl (by kernel_rfl)) rfl ?_
        have hs := sampleS_spec (G := G) (b := b) (F := PoolA bp ei.p :: SrcA bd ei.ds :: Blk nb1 (.cells #[.bool (decide (pol = 1)), fv] 100 (0, 0)) :: Blk bx (.cells #[ptrV b] 26 (0, 0)) :: F) (decide (pol = 1)) 0 (by omega) hE.s hE.v
        rw [show ((0 : Nat) : Int) = 0 from rfl] at hs
        refine k_call rfl rfl (by kernel_rfl) hs ?_
        rintro _ _ ⟨rfl, rfl⟩
        clear hs
        cases hk : ei.s.sampled (decide (pol = 1)) 0 with
        | none =>
          simp only [pickedV]
          refine k_val (ev_move rfl) rfl ?_
          refine k_val (ev_extract rfl rfl) rfl ?_
          refine k_val (ev_extract rfl rfl) rfl ?_
          refine k_val (ev_assign rfl) rfl ?_
          refine run_seq ?_
          refine run_seq ?_
          refine run_region ?_
          refine k_val (ev_move rfl) rfl ?_
          refine k_val (ev_not rfl) rfl ?_
          refine run_cond (t := true) rfl ?_
          refine run_seq ?_
          refine run_region ?_
          refine k_val (ev_move rfl) rfl ?_
          refine k_val (ev_assign rfl) rfl ?_
          refine k_val (ev_assign rfl) rfl ?_
          exact Run.mem (L' := SpA b ei.s.swept :: PoolA bp ei.p :: SrcA bd ei.ds :: F) (ret_spec Tryz.func12 rfl rfl (.inr ⟨by omega, { ei with s := ei.s.swept }, c, 4, hEnf _ _ _ (.none hu hp hk), rfl, rfl⟩)) (by exact fun _ hw => sat_pick [0, 0, 0] 2 hw)
        | some k =>
          obtain ⟨x, t, hx, hxk, hdec⟩ := Rd.evict1_all hE (by omega) (by rw [hc]; exact hq hp) hk
          have hE1 := Rd.Ok.evict1 hE hx
          have hEr := Rd.Ok.round pol hE.sweptR
          have hrd := round_spec (G := G) (b := b) (bp := bp) (bd := bd) (bx := bx) (F := Blk nb1 (.cells #[.bool (decide (pol = 1)), fv] 100 (0, 0)) :: F) hp hE.sweptR (by show ei.s.swept.cfg.samples ≤ _; rw [Sp.swept_cfg, hc]; exact hq2)
          rw [hfv] at hrd
          simp only [pickedV]
          refine k_val (ev_move rfl) rfl ?_
          refine k_val (ev_extract rfl rfl) rfl ?_
          refine k_val (ev_extract rfl rfl) rfl ?_
          refine k_val (ev_assign rfl) rfl ?_
          refine run_seq ?_
          refine run_seq ?_
          refine run_region ?_
          refine k_val (ev_move rfl) rfl ?_
          refine k_val (ev_not rfl) rfl ?_
          refine run_cond (t := false) rfl ?_
          refine run_skip ?_
          refine run_seq ?_
          refine run_region ?_
          refine k_val (ev_move rfl) rfl ?_
          refine k_val (ev_move rfl) rfl ?_
          refine k_val (ev_move rfl) rfl ?_
          refine k_val (ev_loadAllS 2 rfl rfl (by kernel_rfl)) rfl ?_
          refine RunOps.perm (L' := SpA b ei.s.swept :: PoolA bp ei.p :: SrcA bd ei.ds :: Blk bx (.cells #[ptrV b] 26 (0, 0)) :: Blk nb1 (.cells #[.bool (decide (pol = 1)), fv] 100 (0, 0)) :: F) (by exact perm_pick [0, 0, 0, 1, 0] _) ?_
          refine k_call rfl rfl (by kernel_rfl) hrd ?_
          rintro _ _ rfl
          clear hrd
          have hrp := hEr.p.hi
          have hrl := hEr.p.len
          have hnx := next (ei.evict1 pol x t, c + 1)
          clear next
          have hev1 : ei.evict1 pol x t = ⟨(({ ei with s := ei.s.swept } : Rd).round pol).s.evict x.1, { (({ ei with s := ei.s.swept } : Rd).round pol).p with row := t }, (({ ei with s := ei.s.swept } : Rd).round pol).ds⟩ := rfl
          have hx' := hx
          have hcf1 := Rd.evict1_cfg pol ei x t
          have hmm1 := Rd.evict1_most pol ei x t
          rw [hev1] at hnx hE1 hdec hcf1 hmm1
          generalize hger : (({ ei with s := ei.s.swept } : Rd).round pol) = er at *
          refine run_seq ?_
          refine run_region ?_
          refine k_val (ev_move rfl) rfl ?_
          refine RunOps.perm (L' := PoolA bp er.p :: SpA b er.s :: SrcA bd er.ds :: Blk bx (.cells #[ptrV b] 26 (0, 0)) :: Blk nb1 (.cells #[.bool (decide (pol = 1)), fv] 100 (0, 0)) :: F) (by exact perm_pick [1, 0, 0, 0, 0] _) ?_
          refine k_call rfl rfl (by kernel_rfl) (take_spec (p := er.p) (by omega)) ?_
          rintro _ _ (⟨hn, _⟩ | ⟨x2, t2, hx2, rfl, Y, rfl⟩)
          · rw [hx] at hn; cases hn
          rw [hx] at hx2
          injection hx2 with hx2 ht2
          subst hx2 ht2
          refine k_val (ev_move rfl) rfl ?_
          refine k_val (ev_extract rfl rfl) rfl ?_
          refine k_val (ev_extract rfl rfl) rfl ?_
          refine k_alloc (#[.string ByteArray.empty, .int .u64 0]) (by kernel_rfl) rfl ?_
          intro nb2
          refine k_storeAllS 2 rfl rfl rfl rfl rfl (by kernel_rfl) ?_
          refine k_val (ev_assign rfl) rfl ?_
          refine run_seq ?_
          refine run_region ?_
          refine k_val (ev_move rfl) rfl ?_
          refine run_cond (t := true) rfl ?_
          refine run_region ?_
          refine k_val (ev_move rfl) rfl ?_
          refine k_val (ev_fieldAddr0 0 rfl (by kernel_rfl)) rfl ?_
          refine k_val (ev_load rfl (by kernel_rfl)) rfl ?_
          refine RunOps.mem (L' := SpA b er.s :: PoolA bp { er.p with row := t } :: SrcA bd er.ds :: Blk nb1 (.cells #[.bool (decide (pol = 1)), fv] 100 (0, 0)) :: Blk bx (.cells #[ptrV b] 26 (0, 0)) :: F) (by exact fun _ hw => sat_pick [3, 2, 2, 3, 2] 2 hw) ?_
          refine k_call rfl rfl (by kernel_rfl) (evictS_spec hEr.s hEr.v (by omega)) ?_
          rintro _ _ ⟨rfl, rfl⟩
          simp only [decide_eq_true hp] at hnx
          refine run_inBlock ?_
          refine run_region ?_
          refine k_val (ev_move rfl) rfl ?_
          refine k_val (ev_addN (n := 1) rfl rfl rfl rfl (by omega)) rfl ?_
          refine k_val (ev_assign rfl) rfl ?_
          refine hnx _ hdec ⟨hE1, hcf1.trans hc, hmm1.trans hmst, ?_, ?_⟩ ?_
          · simp only at hdec ⊢; omega
          · intro e' c' r hh
            refine hEnf _ _ _ (.step hu hp hk (hger ▸ hx) ?_)
            rw [hev1]
            push_cast at hh
            exact hh
          · exact ⟨rfl, rfl, rfl, rfl, rfl, rfl, rfl, trivial⟩
      · rw [decide_eq_false hp]
        refine k_val (ev_move rfl) rfl ?_
        refine k_val (ev_bT (ev_gt rfl rfl) (by first | assumption | omega)) rfl ?_
        refine run_cond (t := true) rfl ?_
        refine run_skip ?_
        refine run_seq ?_
        refine run_block ?_
        refine run_seq ?_
        refine run_seq ?_
        refine run_region ?_
        refine k_val (ev_move rfl) rfl ?_
        refine run_cond (t := false) rfl ?_
        refine run_skip ?_
        refine run_seq ?_
        refine run_seq ?_
        refine run_region ?_
        refine k_val (ev_move rfl) rfl ?_
        refine k_val (ev_not rfl) rfl ?_
        refine run_cond (t := true) rfl ?_
        refine run_seq ?_
        refine run_region ?_
        refine k_val (ev_move rfl) rfl ?_
        refine k_val (ev_assign rfl) rfl ?_
        refine k_val (ev_assign rfl) rfl ?_
        exact Run.mem (L' := SpA b ei.s :: PoolA bp ei.p :: SrcA bd ei.ds :: F) (ret_spec Tryz.func12 rfl rfl (.inr ⟨by omega, ei, c, 4, hEnf _ _ _ (.bare hu hp), rfl, rfl⟩)) (by exact fun _ hw => sat_pick [0, 0, 0] 2 hw)
    · refine k_val (ev_move rfl) rfl ?_
      refine k_val (ev_bF (ev_gt rfl rfl) (by first | assumption | omega)) rfl ?_
      refine run_cond (t := false) rfl ?_
      refine run_exit rfl ?_
      refine Run.mem (L' := SpA b ei.s :: PoolA bp ei.p :: SrcA bd ei.ds :: F) ?_ (by exact fun _ hw => sat_pick [0, 0, 0] 2 hw)
      refine out (ei, c) _ ?_ ?_
      · exact hEnf _ _ _ (.done (by omega))
      · exact ⟨rfl, trivial⟩
  · rintro ⟨e', c⟩ hz
    refine run_seq ?_
    refine run_region ?_
    refine k_val (ev_move rfl) rfl ?_
    refine k_val (ev_assign rfl) rfl ?_
    refine k_val (ev_assign rfl) rfl ?_
    exact ret_spec Tryz.func12 rfl rfl (.inr ⟨by omega, e', c, 0, hz, rfl, rfl⟩)
end
end Go.PS
