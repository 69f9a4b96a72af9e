/-
  The keyspace's Sample, Touched, Stored, walked.
  Conditions: each contract's own.
-/
import Derived.Test.YtopkabhgkhjecaaGreatSweepW
namespace Go.PS
open Go Go.Proofs Go.Shelf
set_option maxRecDepth 10000

namespace Sp
variable {α : Type}
noncomputable def swept (s : Sp α) : Sp α := s.sweep 9223372036854775807
noncomputable def sampled (s : Sp α) (al : Bool) (r : Nat) : Option ByteArray := if al then s.swept.main.sample r else s.swept.late.sample r
end Sp

section
variable {G : World} {L F : List HP} {b bm bl mp : Nat} {c : Sp Nat} {sv : Value} {s : Sp Unit}
theorem sweeps_ok {α : Type} : ∀ (l : List ByteArray) {c : Sp α}, c.Ok → c.vol ≤ 1099511627776 → (∀ k ∈ l, k ∈ c.main.keys) → l.Nodup → (l.foldl Sp.expires c).Ok ∧ (l.foldl Sp.expires c).vol ≤ c.vol
  | [], c, ok, _, _, _ => ⟨ok, Nat.le_refl _⟩
  | k :: l, c, ok, hv, hm, hn => by
    rw [List.nodup_cons] at hn
    have he := ok.expires hv (hm k (.head _))
    have := sweeps_ok l he.1 (by omega) (fun q hq => by
      show q ∈ (c.main.delete k).keys
      rw [ok.wm.mem_del (ok.bound hv).1]
      exact ⟨hm q (.tail _ hq), fun e => hn.1 (e ▸ hq)⟩) hn.2
    rw [List.foldl_cons]
    exact ⟨this.1, by omega⟩
theorem dues_mem {α : Type} {s : Sp α} {k : ByteArray} : k ∈ s.dues ↔ k ∈ s.late.keys ∧ s.past (s.ent k).at_ = true := by
  unfold Sp.dues
  rw [List.mem_mergeSort, List.mem_filter]
theorem dues_nodup {α : Type} {s : Sp α} (ok : s.Ok) : s.dues.Nodup := by
  unfold Sp.dues
  exact ((List.mergeSort_perm _ _).nodup_iff).2 (List.Nodup.sublist List.filter_sublist ok.wl.uniq)
theorem Sp.Ok.sweep {α : Type} {s : Sp α} (ok : s.Ok) (hv : s.vol ≤ 1099511627776) (most : Int) : (s.sweep most).Ok ∧ (s.sweep most).vol ≤ s.vol := by
  unfold Sp.sweep
  split
  · exact ⟨ok, Nat.le_refl _⟩
  · exact sweeps_ok _ ok hv (fun k hk => ((ok.sub k).1 (dues_mem.1 (List.mem_of_mem_take hk)).1).1) (List.Nodup.sublist (List.take_sublist _ _) (dues_nodup ok))

theorem allS_spec (ok : s.Ok) (hv : s.vol ≤ 1099511627776) : Spec Tryz.prog G 98 [ptrV b] (SpA b s :: F) fun v L' => v = .bool true ∧ L' = SpA b s.swept :: F := by
  refine spec_of_run Tryz.func98 rfl rfl ?_
  refine run_seq ?_
  refine run_region ?_
  refine k_val (ev_assign rfl) rfl ?_
  refine run_seq ?_
  refine run_region ?_
  refine k_val (ev_move rfl) rfl ?_
  refine k_call rfl rfl (by kernel_rfl) (sweepS_spec (most := 9223372036854775807) ok hv) ?_
  rintro _ _ rfl
  refine run_seq ?_
  refine run_region ?_
  refine k_val (ev_move rfl) rfl ?_
  refine k_val (ev_neNil rfl rfl (by kernel_rfl)) rfl ?_
  refine k_val (ev_assign rfl) rfl ?_
  exact ret_spec Tryz.func98 rfl rfl ⟨rfl, rfl⟩
theorem sampleS_spec (al : Bool) (r : Nat) (hr : r ≤ 18446744073709551615) (ok : s.Ok) (hv : s.vol ≤ 1099511627776) : Spec Tryz.prog G 49 [ptrV b, .bool al, .int .u64 r] (SpA b s :: F) fun v L' => v = pickedV (s.sampled al r) ∧ L' = SpA b s.swept :: F := by
  refine spec_of_run Tryz.func49 rfl rfl ?_
  have h2 := ok.sweep hv 9223372036854775807
  have hsw : s.sweep 9223372036854775807 = s.swept := rfl
  rw [hsw] at h2
  refine run_seq ?_
  refine run_region ?_
  refine k_val (ev_assign rfl) rfl ?_
  refine k_val (ev_assign rfl) rfl ?_
  refine run_seq ?_
  refine run_block ?_
  refine run_seq ?_
  refine run_region ?_
  refine k_val (ev_move rfl) rfl ?_
  refine k_call rfl rfl (by kernel_rfl) (allS_spec ok hv) ?_
  rintro _ _ ⟨rfl, rfl⟩
  have hsd : s.sampled al r = if al then s.swept.main.sample r else s.swept.late.sample r := rfl
  rw [hsd]
  generalize s.swept = d at *
  obtain ⟨hn, hld, _, _⟩ := h2.1.bound (by omega)
  refine RunOps.exm (fun _ hw => sat_sp hw) ?_
  rintro ⟨c, bm, bl, mp, sv⟩ ⟨hs, hl⟩
  simp only at hs hl ⊢
  have okc := okc h2.1 hs
  subst hs
  cases al with
  | true =>
    refine k_val (ev_not rfl) rfl ?_
    refine k_val (ev_assign rfl) rfl ?_
    refine run_cond (t := false) rfl ?_
    refine run_seq ?_
    refine run_region ?_
    refine k_val (ev_move rfl) rfl ?_
    refine k_val (ev_assign rfl) rfl ?_
    refine run_cond (t := true) rfl ?_
    refine run_seq ?_
    refine run_region ?_
    refine k_val (ev_move rfl) rfl ?_
    refine k_val (ev_nilCheck rfl) rfl ?_
    refine k_val (ev_fieldAddr0 7 rfl (by kernel_rfl)) rfl ?_
    refine k_val (ev_load rfl (by kernel_rfl)) rfl ?_
    refine k_val (ev_move rfl) rfl ?_
    refine k_call rfl rfl (by kernel_rfl) (sampleF_spec r hr okc.wm hn) ?_
    rintro _ _ ⟨rfl, rfl⟩
    have e : (c.map nil1).main.sample r = c.main.sample r := D.map_sample _ _ _
    rw [if_pos rfl, e]
    cases hsm : c.main.sample r with
    | none =>
      refine k_val (ev_extract rfl rfl) rfl ?_
      refine k_val (ev_extract rfl rfl) rfl ?_
      refine k_val (ev_assign rfl) rfl ?_
      refine k_val (ev_assign rfl) rfl ?_
      refine Run.mem (L' := SpA b (c.map nil1) :: F) (ret_spec Tryz.func49 rfl rfl ⟨rfl, rfl⟩) ?_
      intro w hw
      refine sat_mkSp (bm := bm) (bl := bl) (mp := mp) (sv := sv) hl ?_
      revert w; exact fun _ hw => sat_pick [1, 0, 0, 0, 0] 0 hw
    | some k =>
      refine k_val (ev_extract rfl rfl) rfl ?_
      refine k_val (ev_extract rfl rfl) rfl ?_
      refine k_val (ev_assign rfl) rfl ?_
      refine k_val (ev_assign rfl) rfl ?_
      refine Run.mem (L' := SpA b (c.map nil1) :: F) (ret_spec Tryz.func49 rfl rfl ⟨rfl, rfl⟩) ?_
      intro w hw
      refine sat_mkSp (bm := bm) (bl := bl) (mp := mp) (sv := sv) hl ?_
      revert w; exact fun _ hw => sat_pick [1, 0, 0, 0, 0] 0 hw
  | false =>
    refine k_val (ev_not rfl) rfl ?_
    refine k_val (ev_assign rfl) rfl ?_
    refine run_cond (t := false) rfl ?_
    refine run_seq ?_
    refine run_region ?_
    refine k_val (ev_move rfl) rfl ?_
    refine k_val (ev_assign rfl) rfl ?_
    refine run_cond (t := false) rfl ?_
    refine run_skip ?_
    refine run_inBlock ?_
    refine run_seq ?_
    refine run_region ?_
    refine k_val (ev_move rfl) rfl ?_
    refine k_val (ev_nilCheck rfl) rfl ?_
    refine k_val (ev_fieldAddr0 8 rfl (by kernel_rfl)) rfl ?_
    refine k_val (ev_load rfl (by kernel_rfl)) rfl ?_
    refine k_val (ev_move rfl) rfl ?_
    refine k_call rfl rfl (by kernel_rfl) (sampleF_spec r hr okc.wl hld) ?_
    rintro _ _ ⟨rfl, rfl⟩
    have e : (c.map nil1).late.sample r = c.late.sample r := D.map_sample _ _ _
    rw [if_neg (by simp), e]
    cases hsm : c.late.sample r with
    | none =>
      refine k_val (ev_extract rfl rfl) rfl ?_
      refine k_val (ev_extract rfl rfl) rfl ?_
      refine k_val (ev_assign rfl) rfl ?_
      refine k_val (ev_assign rfl) rfl ?_
      refine Run.mem (L' := SpA b (c.map nil1) :: F) (ret_spec Tryz.func49 rfl rfl ⟨rfl, rfl⟩) ?_
      intro w hw
      refine sat_mkSp (bm := bm) (bl := bl) (mp := mp) (sv := sv) hl ?_
      revert w; exact fun _ hw => sat_pick [1, 1, 0, 0, 0] 0 hw
    | some k =>
      refine k_val (ev_extract rfl rfl) rfl ?_
      refine k_val (ev_extract rfl rfl) rfl ?_
      refine k_val (ev_assign rfl) rfl ?_
      refine k_val (ev_assign rfl) rfl ?_
      refine Run.mem (L' := SpA b (c.map nil1) :: F) (ret_spec Tryz.func49 rfl rfl ⟨rfl, rfl⟩) ?_
      intro w hw
      refine sat_mkSp (bm := bm) (bl := bl) (mp := mp) (sv := sv) hl ?_
      revert w; exact fun _ hw => sat_pick [1, 1, 0, 0, 0] 0 hw
end
end Go.PS
