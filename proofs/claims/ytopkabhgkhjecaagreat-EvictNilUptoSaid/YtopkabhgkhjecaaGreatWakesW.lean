/-
  The little run that shows the code awake; the first law.
  Conditions: each contract's own.
-/
import Derived.Test.YtopkabhgkhjecaaGreatEnforceW
namespace Go.PS
open Go Go.Proofs Go.Shelf
set_option maxRecDepth 10000

/-! ### One key put, one evicted -/
section
def wakeCfg : Cfg := ⟨0, 100, 1, 2⟩
variable {key text : ByteArray}
noncomputable def wake1 (key text : ByteArray) : Sp Unit := (Sp.mk0 wakeCfg : Sp Unit).put key text ()
theorem wake_there : (Sp.mk0 wakeCfg : Sp Unit).there key = false := by
  cases h : (Sp.mk0 wakeCfg : Sp Unit).there key with
  | false => rfl
  | true => exact absurd ((Sp.ok_mk0 wakeCfg).there_mem h).1 (by simp [Sp.mk0, D.mk0, D.keys, D.items])
theorem wake_has : (Sp.mk0 wakeCfg : Sp Unit).has key = false := by
  cases h : (Sp.mk0 wakeCfg : Sp Unit).has key with
  | false => rfl
  | true => exact absurd ((Sp.ok_mk0 wakeCfg).has_iff.1 h) (by simp [Sp.mk0, D.mk0, D.keys, D.items])
theorem wake_met : (Sp.mk0 wakeCfg : Sp Unit).met key = (Sp.mk0 wakeCfg : Sp Unit).stepped := by unfold Sp.met; rw [wake_has]; rfl
theorem wake_eq : wake1 key text = (((Sp.mk0 wakeCfg : Sp Unit).stepped.lay key text ()).use key).touch key := by
  unfold wake1 Sp.put
  rw [wake_there, wake_met]; rfl
theorem wake_ok (hk : key.size ≤ 1048576) (ht : text.size ≤ 1048576) : (wake1 key text).Ok ∧ (wake1 key text).vol ≤ 3 := by
  have := (Sp.ok_mk0 (α := Unit) wakeCfg).put (key := key) (text := text) (by simp [Sp.vol, Sp.mk0, D.mk0]) () hk ht
  exact ⟨this.1, by
    have h := this.2
    rw [show (Sp.mk0 wakeCfg : Sp Unit).vol = 0 from rfl] at h
    exact h⟩
theorem wake_used (hk : key.size = 1) (ht : text.size = 60) : (wake1 key text).used = 109 := by
  rw [wake_eq]
  show (0 : Int) + Sp.costs key ⟨text, 0, 0⟩ = 109
  unfold Sp.costs
  simp only
  rw [hk, ht]; rfl
theorem wake_cfg : (wake1 key text).cfg = wakeCfg := by rw [wake_eq]; rfl
theorem wake_dues : (wake1 key text).dues = [] := by
  rw [wake_eq]
  unfold Sp.dues
  have : ((((Sp.mk0 wakeCfg : Sp Unit).stepped.lay key text ()).use key).touch key).late.keys = [] := rfl
  rw [this, List.filter_nil, List.mergeSort_nil]
theorem wake_swept (hk : key.size ≤ 1048576) (ht : text.size ≤ 1048576) : (wake1 key text).swept = wake1 key text := by
  have h := wake_ok hk ht
  rw [Sp.swept_eq h.1 (by omega), wake_dues]; rfl
theorem wake_enf (hk : key.size = 1) (ht : text.size = 60) {e' : Rd} {c r : Int} (h : Rd.Enf 1 100 ⟨(wake1 key text).swept, ⟨4, []⟩, []⟩ 0 e' c r) : c = 1 ∧ r = 0 ∧ e'.s.used = 0 := by
  rw [wake_swept (by omega) (by omega)] at h
  have ho := wake_ok (key := key) (text := text) (by omega) (by omega)
  have hu := wake_used hk ht
  have hE : Rd.Ok ⟨wake1 key text, ⟨4, []⟩, []⟩ := ⟨ho.1, by simp only; omega, ⟨by show (0 : Int) ≤ 4; decide, by show (4 : Int) ≤ 1048575; decide, by show (0 : Int) ≤ 4; decide, by simp⟩, by simp⟩
  have hn1 : (wake1 key text).main.n ≤ 1 := by have := ho.2; unfold Sp.vol at this; omega
  cases h with
  | done h1 => simp only [hu] at h1; omega
  | bare h1 h2 => exact absurd (.inl rfl) h2
  | none h1 h2 h3 =>
    exfalso
    simp only at h3
    have hs := wake_swept (key := key) (text := text) (by omega) (by omega)
    unfold Sp.sampled at h3
    rw [if_pos (by decide), hs] at h3
    have hn : (wake1 key text).main.n ≠ 0 := by
      intro e
      have h4 := ho.1.used
      rw [ho.1.wm.n_keys] at e
      rw [List.length_eq_zero_iff.1 e, hu] at h4
      simp [Sp.total] at h4
    obtain ⟨q, hq, _⟩ := ho.1.wm.sample_some hn 0
    rw [hq] at h3; cases h3
  | step h1 h2 h3 h4 h5 =>
    rename_i k x t
    obtain ⟨x', t', hx, _, hd⟩ := Rd.evict1_all hE (by show (1:Int) ≤ 4; decide) (by show 1 ≤ (wake1 key text).cfg.samples; rw [wake_cfg]; decide) h3
    rw [h4] at hx
    injection hx with hx1 hx2
    subst hx1 hx2
    have hok := Rd.Ok.evict1 hE h4
    have hz : (Rd.evict1 1 ⟨wake1 key text, ⟨4, []⟩, []⟩ x t).s.used = 0 := by
      have h6 := hok.s.used
      have h7 := hok.s.wm.n_keys
      simp only at hd
      have h8 : (Rd.evict1 1 ⟨wake1 key text, ⟨4, []⟩, []⟩ x t).s.main.keys = [] := List.length_eq_zero_iff.1 (by omega)
      rw [h6, h8]; rfl
    cases h5 with
    | done _ => exact ⟨rfl, rfl, hz⟩
    | bare h6 => omega
    | none h6 => omega
    | step h6 => omega
end
section
variable {G : World} {L : List HP}
theorem wakes_spec : Spec Tryz.prog G 13 [] L fun v L' => v = .bool true ∧ L' = L := by
  refine spec_of_run Tryz.func13 rfl rfl ?_
  refine run_seq ?_
  refine run_region ?_
  refine k_val (ev_assign rfl) rfl ?_
  refine run_seq ?_
  refine run_region ?_
  refine k_val (ev_build1 [.int .u64 0, .int .i64 0, .int .i64 0, .int .i64 0] [1, 2, 3] (by kernel_rfl) (by kernel_rfl) rfl rfl rfl) rfl ?_
  refine k_call rfl rfl (by kernel_rfl) (newS_spec wakeCfg) ?_
  rintro _ _ (⟨h, _⟩ | ⟨-, b, rfl, rfl⟩)
  · exact absurd h (by decide)
  refine k_val (ev_move rfl) rfl ?_
  refine k_val (ev_extract rfl rfl) rfl ?_
  refine k_val (ev_extract rfl rfl) rfl ?_
  refine k_val (ev_assign rfl) rfl ?_
  refine k_val (ev_assign rfl) rfl ?_
  refine run_seq ?_
  refine run_region ?_
  refine k_call rfl rfl (by kernel_rfl) (pnew_spec 4) ?_
  rintro _ _ (⟨h, _⟩ | ⟨-, bp, rfl, rfl⟩)
  · exact absurd h (by decide)
  refine k_val (ev_move rfl) rfl ?_
  refine k_val (ev_extract rfl rfl) rfl ?_
  refine k_val (ev_extract rfl rfl) rfl ?_
  refine k_val (ev_assign rfl) rfl ?_
  refine k_val (ev_assign rfl) rfl ?_
  refine run_seq ?_
  refine run_seq ?_
  refine run_region ?_
  refine k_val (ev_move rfl) rfl ?_
  refine k_val (ev_bF (ev_neI rfl rfl) (by first | assumption | omega)) rfl ?_
  refine k_val (ev_move rfl) rfl ?_
  refine k_guard rfl rfl rfl ?_
  refine k_val (ev_move rfl) rfl ?_
  refine k_guard rfl rfl rfl ?_
  refine k_val (ev_bF (ev_neI rfl rfl) (by first | assumption | omega)) rfl ?_
  refine k_val (ev_pickF rfl rfl) rfl ?_
  refine k_val (ev_move rfl) rfl ?_
  refine k_guard rfl rfl rfl ?_
  refine k_val (ev_move rfl) rfl ?_
  refine k_guard rfl rfl rfl ?_
  refine k_val (ev_eqNil rfl rfl (by kernel_rfl)) rfl ?_
  refine k_val (ev_pickF rfl rfl) rfl ?_
  refine k_val (ev_move rfl) rfl ?_
  refine k_guard rfl rfl rfl ?_
  refine k_val (ev_move rfl) rfl ?_
  refine k_guard rfl rfl rfl ?_
  refine k_val (ev_eqNil rfl rfl (by kernel_rfl)) rfl ?_
  refine k_val (ev_pickF rfl rfl) rfl ?_
  refine run_cond (t := false) rfl ?_
  refine run_skip ?_
  refine run_seq ?_
  refine run_region ?_
  refine k_val (ev_move rfl) rfl ?_
  refine k_makeSlice1 (e := 5) (B := 1) (c := 60) (.int .u8 0) rfl rfl rfl rfl ⟨by kernel_rfl, by kernel_rfl, by kernel_rfl, by kernel_rfl⟩ (by omega) (by omega) rfl ?_
  intro nb1
  refine k_val (ev_convZeros rfl (by kernel_rfl) (by kernel_rfl)) rfl ?_
  refine k_call rfl rfl (by kernel_rfl) (text_spec _) ?_
  rintro _ _ ⟨vp, rfl, rfl⟩
  skip
  have hz : (zerosS 60).size = 60 := rfl
  have hkz : (⟨#[107]⟩ : ByteArray).size = 1 := rfl
  have hpt : (Sp.mk0 wakeCfg : Sp Unit).put ⟨#[107]⟩ (zerosS 60) () = wake1 ⟨#[107]⟩ (zerosS 60) := rfl
  refine RunOps.perm (L' := SpA b (Sp.mk0 wakeCfg) :: Blk vp (.cells #[.iface tyText (.string (zerosS 60))] tyVal (0, 0)) :: PoolA bp ⟨4, []⟩ :: Blk nb1 (.cells (Array.replicate 60 (.int .u8 0)) 5 (0, 0)) :: L) (by exact perm_pick [3, 0, 1, 0] _) ?_
  refine k_call rfl rfl (by kernel_rfl) (putS_spec (key := ⟨#[107]⟩) (text := zerosS 60) (Sp.ok_mk0 _) (by show 0 + 3 ≤ 1099511627776; decide) (by omega) (by omega)) ?_
  rintro v0 _ rfl
  rw [if_neg (by rw [hz, hkz]; decide), hpt]
  have hwo := wake_ok (key := ⟨#[107]⟩) (text := zerosS 60) (by omega) (by omega)
  have hwu := wake_used (key := ⟨#[107]⟩) (text := zerosS 60) hkz hz
  have hwc := wake_cfg (key := ⟨#[107]⟩) (text := zerosS 60)
  have hwe := fun e' c r => wake_enf (key := ⟨#[107]⟩) (text := zerosS 60) hkz hz (e' := e') (c := c) (r := r)
  generalize wake1 ⟨#[107]⟩ (zerosS 60) = s1 at *
  refine run_seq ?_
  refine run_region ?_
  refine k_val (ev_move rfl) rfl ?_
  refine k_val (ev_move rfl) rfl ?_
  refine k_call rfl rfl (by kernel_rfl) dnew_nil ?_
  rintro _ _ ⟨bd, rfl, rfl⟩
  skip
  refine RunOps.perm (L' := SpA b s1 :: PoolA bp ⟨4, []⟩ :: SrcA bd [] :: Blk nb1 (.cells (Array.replicate 60 (.int .u8 0)) 5 (0, 0)) :: L) (by exact perm_pick [1, 1, 0, 0] _) ?_
  have hE : Rd.Ok ⟨s1, ⟨4, []⟩, []⟩ := ⟨hwo.1, by simp only; omega, ⟨by show (0 : Int) ≤ 4; decide, by show (4 : Int) ≤ 1048575; decide, by show (0 : Int) ≤ 4; decide, by simp⟩, by simp⟩
  refine k_call rfl rfl (by kernel_rfl) (enforce_spec (e := ⟨s1, ⟨4, []⟩, []⟩) hE (by show (1 : Int) ≤ 4; decide) (by show _ → 1 ≤ s1.cfg.samples; rw [hwc]; decide) (by show s1.cfg.samples ≤ _; rw [hwc]; decide)) ?_
  simp only
  rintro _ _ (⟨h, _⟩ | ⟨-, e', c, r, hEnf, rfl, rfl⟩)
  · rw [hwc, hwu] at h; exact absurd h (by decide)
  rw [hwc] at hEnf
  obtain ⟨rfl, rfl, hu0⟩ := hwe e' c r hEnf
  refine k_val (ev_move rfl) rfl ?_
  refine k_val (ev_extract rfl rfl) rfl ?_
  refine k_val (ev_extract rfl rfl) rfl ?_
  refine k_val (ev_assign rfl) rfl ?_
  refine k_val (ev_assign rfl) rfl ?_
  refine run_seq ?_
  refine run_region ?_
  refine k_val (ev_move rfl) rfl ?_
  refine k_val (ev_bT (ev_eqI rfl rfl) (by first | assumption | omega)) rfl ?_
  refine k_val (ev_move rfl) rfl ?_
  refine k_guard rfl rfl rfl ?_
  refine k_val (ev_move rfl) rfl ?_
  refine k_guard rfl rfl rfl ?_
  refine k_val (ev_bT (ev_eqI rfl rfl) (by first | assumption | omega)) rfl ?_
  refine k_val (ev_pickT rfl rfl) rfl ?_
  refine k_val (ev_move rfl) rfl ?_
  refine k_guard rfl rfl rfl ?_
  refine k_val (ev_move rfl) rfl ?_
  refine k_guard rfl rfl rfl ?_
  refine k_call rfl rfl (by kernel_rfl) usedS_spec ?_
  rintro _ _ ⟨rfl, rfl⟩
  rw [hu0]
  refine k_guard rfl rfl rfl ?_
  refine k_val (ev_bT (ev_eqI rfl rfl) (by first | assumption | omega)) rfl ?_
  refine k_val (ev_pickT rfl rfl) rfl ?_
  refine k_val (ev_assign rfl) rfl ?_
  exact Run.mem (L' := L) (ret_spec Tryz.func13 rfl rfl ⟨rfl, rfl⟩) (by exact fun _ hw => sat_pick [] 4 hw)

theorem DrawsIn.by_ {L' : List HP} {v : Value} {ds : List Int} (h : DrawsIn G L v ds) (hp : ∀ w, Sat G w L' → Sat G w L) : DrawsIn G L' v ds := by
  rcases h with h | h | ⟨b, off, cap, C, h1, h2, h3, h4⟩
  · exact .inl h
  · exact .inr (.inl h)
  · exact .inr <| .inr ⟨b, off, cap, C, h1, ⟨fun w hw => h2.read w (hp w hw)⟩, h3, h4⟩
/-- The first law: with one of the three missing nothing is done and it is said. -/
theorem law3_spec {k : Int} {q : Cfg} {v : Value} {ds : List Int} (hi : DrawsIn G L v ds) (hn : ds.length ≤ 1099511627776) :
    Spec Tryz.prog G 3 [.int .i64 k, .agg #[.int .u64 q.seed, .int .i64 q.most, .int .i64 q.policy, .int .i64 q.samples], v] L fun u L' => u = .bool true ∧ L' = L := by
  refine spec_of_run Tryz.func3 rfl rfl ?_
  refine run_seq ?_
  refine run_region ?_
  refine k_boxAgg rfl rfl ?_
  intro nb1
  refine k_val (ev_assign rfl) rfl ?_
  refine run_seq ?_
  refine run_region ?_
  refine k_val (ev_loadAllS 4 rfl rfl (by kernel_rfl)) rfl ?_
  refine k_call rfl rfl (by kernel_rfl) (newS_spec q) ?_
  rintro u1 L1 hL1
  have hd1 : ∃ a0 e0, u1 = .tuple #[.pointer a0, .int .i64 e0] ∧ ∀ w, Sat G w L1 → Sat G w L := by
    rcases hL1 with ⟨_, h1, X, h2⟩ | ⟨_, b, h1, h2⟩
    · exact ⟨_, _, h1, fun w hw => by rw [h2] at hw; exact hw.append_right.tail⟩
    · exact ⟨_, _, h1, fun w hw => by rw [h2] at hw; exact hw.tail.tail⟩
  clear hL1
  obtain ⟨a0, e0, rfl, hd1⟩ := hd1
  refine k_val (ev_move rfl) rfl ?_
  refine k_val (ev_extract rfl rfl) rfl ?_
  refine k_val (ev_extract rfl rfl) rfl ?_
  refine k_val (ev_assign rfl) rfl ?_
  refine k_val (ev_assign rfl) rfl ?_
  refine run_seq ?_
  refine run_region ?_
  refine k_call rfl rfl (by kernel_rfl) (pnew_spec 5) ?_
  rintro u2 L2 hL2
  have hd2 : ∃ a1 e1, u2 = .tuple #[.pointer a1, .int .i64 e1] ∧ ∀ w, Sat G w L2 → Sat G w L := by
    rcases hL2 with ⟨_, h1, h2⟩ | ⟨_, b, h1, h2⟩
    · exact ⟨_, _, h1, fun w hw => by rw [h2] at hw; exact hd1 w hw⟩
    · exact ⟨_, _, h1, fun w hw => by rw [h2] at hw; exact hd1 w hw.tail⟩
  clear hL2
  obtain ⟨a1, e1, rfl, hd2⟩ := hd2
  refine k_val (ev_move rfl) rfl ?_
  refine k_val (ev_extract rfl rfl) rfl ?_
  refine k_val (ev_extract rfl rfl) rfl ?_
  refine k_val (ev_assign rfl) rfl ?_
  refine k_val (ev_assign rfl) rfl ?_
  refine run_seq ?_
  refine run_region ?_
  refine k_val (ev_move rfl) rfl ?_
  refine k_call rfl rfl (by kernel_rfl) (dnew_spec (hi.by_ hd2) hn) ?_
  rintro _ _ ⟨bd, rfl, rfl⟩
  by_cases h0 : k = 0
  · refine k_val (ev_assign rfl) rfl ?_
    refine run_seq ?_
    refine run_seq ?_
    refine run_region ?_
    refine k_val (ev_move rfl) rfl ?_
    refine run_block ?_
    refine run_seq ?_
    refine run_region ?_
    refine k_val (ev_bT (ev_eqI rfl rfl) (by first | assumption | omega)) rfl ?_
    refine k_val (ev_assign rfl) rfl ?_
    refine run_cond (t := true) rfl ?_
    refine run_region ?_
    refine k_val (ev_assign rfl) rfl ?_
    refine run_inBlock ?_
    refine run_seq ?_
    refine run_region ?_
    refine k_val (ev_move rfl) rfl ?_
    refine k_val (ev_move rfl) rfl ?_
    refine k_val (ev_move rfl) rfl ?_
    refine k_call rfl rfl (by kernel_rfl) (round11_nil (.inl rfl)) ?_
    rintro _ _ rfl
    refine run_seq ?_
    refine run_region ?_
    refine k_val (ev_move rfl) rfl ?_
    refine k_val (ev_move rfl) rfl ?_
    refine k_val (ev_move rfl) rfl ?_
    refine k_call rfl rfl (by kernel_rfl) (enforce_nil (.inl rfl)) ?_
    rintro _ _ ⟨rfl, rfl⟩
    refine k_val (ev_move rfl) rfl ?_
    refine k_val (ev_extract rfl rfl) rfl ?_
    refine k_val (ev_extract rfl rfl) rfl ?_
    refine k_val (ev_assign rfl) rfl ?_
    refine k_val (ev_assign rfl) rfl ?_
    refine run_seq ?_
    refine run_region ?_
    refine k_val (ev_move rfl) rfl ?_
    refine k_val (ev_bT (ev_eqI rfl rfl) (by first | assumption | omega)) rfl ?_
    refine k_val (ev_move rfl) rfl ?_
    refine k_guard rfl rfl rfl ?_
    refine k_val (ev_move rfl) rfl ?_
    refine k_guard rfl rfl rfl ?_
    refine k_val (ev_bT (ev_eqI rfl rfl) (by first | assumption | omega)) rfl ?_
    refine k_val (ev_pickT rfl rfl) rfl ?_
    refine k_val (ev_move rfl) rfl ?_
    refine k_guard rfl rfl rfl ?_
    refine k_call rfl rfl (by kernel_rfl) wakes_spec ?_
    rintro _ _ ⟨rfl, rfl⟩
    refine k_val (ev_pickT rfl rfl) rfl ?_
    refine k_val (ev_assign rfl) rfl ?_
    exact Run.mem (L' := L) (ret_spec Tryz.func3 rfl rfl ⟨rfl, rfl⟩) (fun w hw => hd2 w hw.tail)
  by_cases h1 : k = 1
  · refine k_val (ev_assign rfl) rfl ?_
    refine run_seq ?_
    refine run_seq ?_
    refine run_region ?_
    refine k_val (ev_move rfl) rfl ?_
    refine run_block ?_
    refine run_seq ?_
    refine run_region ?_
    refine k_val (ev_bF (ev_eqI rfl rfl) (by first | assumption | omega)) rfl ?_
    refine k_val (ev_assign rfl) rfl ?_
    refine run_cond (t := false) rfl ?_
    refine run_seq ?_
    refine run_region ?_
    refine k_val (ev_bT (ev_eqI rfl rfl) (by first | assumption | omega)) rfl ?_
    refine k_val (ev_assign rfl) rfl ?_
    refine run_cond (t := true) rfl ?_
    refine run_region ?_
    refine k_val (ev_assign rfl) rfl ?_
    refine run_inBlock ?_
    refine run_seq ?_
    refine run_region ?_
    refine k_val (ev_move rfl) rfl ?_
    refine k_val (ev_move rfl) rfl ?_
    refine k_val (ev_move rfl) rfl ?_
    refine k_call rfl rfl (by kernel_rfl) (round11_nil (.inr (.inl rfl))) ?_
    rintro _ _ rfl
    refine run_seq ?_
    refine run_region ?_
    refine k_val (ev_move rfl) rfl ?_
    refine k_val (ev_move rfl) rfl ?_
    refine k_val (ev_move rfl) rfl ?_
    refine k_call rfl rfl (by kernel_rfl) (enforce_nil (.inr (.inl rfl))) ?_
    rintro _ _ ⟨rfl, rfl⟩
    refine k_val (ev_move rfl) rfl ?_
    refine k_val (ev_extract rfl rfl) rfl ?_
    refine k_val (ev_extract rfl rfl) rfl ?_
    refine k_val (ev_assign rfl) rfl ?_
    refine k_val (ev_assign rfl) rfl ?_
    refine run_seq ?_
    refine run_region ?_
    refine k_val (ev_move rfl) rfl ?_
    refine k_val (ev_bT (ev_eqI rfl rfl) (by first | assumption | omega)) rfl ?_
    refine k_val (ev_move rfl) rfl ?_
    refine k_guard rfl rfl rfl ?_
    refine k_val (ev_move rfl) rfl ?_
    refine k_guard rfl rfl rfl ?_
    refine k_val (ev_bT (ev_eqI rfl rfl) (by first | assumption | omega)) rfl ?_
    refine k_val (ev_pickT rfl rfl) rfl ?_
    refine k_val (ev_move rfl) rfl ?_
    refine k_guard rfl rfl rfl ?_
    refine k_call rfl rfl (by kernel_rfl) wakes_spec ?_
    rintro _ _ ⟨rfl, rfl⟩
    refine k_val (ev_pickT rfl rfl) rfl ?_
    refine k_val (ev_assign rfl) rfl ?_
    exact Run.mem (L' := L) (ret_spec Tryz.func3 rfl rfl ⟨rfl, rfl⟩) (fun w hw => hd2 w hw.tail)
  refine k_val (ev_assign rfl) rfl ?_
  refine run_seq ?_
  refine run_seq ?_
  refine run_region ?_
  refine k_val (ev_move rfl) rfl ?_
  refine run_block ?_
  refine run_seq ?_
  refine run_region ?_
  refine k_val (ev_bF (ev_eqI rfl rfl) (by first | assumption | omega)) rfl ?_
  refine k_val (ev_assign rfl) rfl ?_
  refine run_cond (t := false) rfl ?_
  refine run_seq ?_
  refine run_region ?_
  refine k_val (ev_bF (ev_eqI rfl rfl) (by first | assumption | omega)) rfl ?_
  refine k_val (ev_assign rfl) rfl ?_
  refine run_cond (t := false) rfl ?_
  refine run_region ?_
  refine k_val (ev_assign rfl) rfl ?_
  refine run_inBlock ?_
  refine run_seq ?_
  refine run_region ?_
  refine k_val (ev_move rfl) rfl ?_
  refine k_val (ev_move rfl) rfl ?_
  refine k_val (ev_move rfl) rfl ?_
  refine k_call rfl rfl (by kernel_rfl) (round11_nil (.inr (.inr rfl))) ?_
  rintro _ _ rfl
  refine run_seq ?_
  refine run_region ?_
  refine k_val (ev_move rfl) rfl ?_
  refine k_val (ev_move rfl) rfl ?_
  refine k_val (ev_move rfl) rfl ?_
  refine k_call rfl rfl (by kernel_rfl) (enforce_nil (.inr (.inr rfl))) ?_
  rintro _ _ ⟨rfl, rfl⟩
  refine k_val (ev_move rfl) rfl ?_
  refine k_val (ev_extract rfl rfl) rfl ?_
  refine k_val (ev_extract rfl rfl) rfl ?_
  refine k_val (ev_assign rfl) rfl ?_
  refine k_val (ev_assign rfl) rfl ?_
  refine run_seq ?_
  refine run_region ?_
  refine k_val (ev_move rfl) rfl ?_
  refine k_val (ev_bT (ev_eqI rfl rfl) (by first | assumption | omega)) rfl ?_
  refine k_val (ev_move rfl) rfl ?_
  refine k_guard rfl rfl rfl ?_
  refine k_val (ev_move rfl) rfl ?_
  refine k_guard rfl rfl rfl ?_
  refine k_val (ev_bT (ev_eqI rfl rfl) (by first | assumption | omega)) rfl ?_
  refine k_val (ev_pickT rfl rfl) rfl ?_
  refine k_val (ev_move rfl) rfl ?_
  refine k_guard rfl rfl rfl ?_
  refine k_call rfl rfl (by kernel_rfl) wakes_spec ?_
  rintro _ _ ⟨rfl, rfl⟩
  refine k_val (ev_pickT rfl rfl) rfl ?_
  refine k_val (ev_assign rfl) rfl ?_
  exact Run.mem (L' := L) (ret_spec Tryz.func3 rfl rfl ⟨rfl, rfl⟩) (fun w hw => hd2 w hw.tail)
end
end Go.PS
