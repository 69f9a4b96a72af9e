/-
  The keyspace as one assertion; its methods, walked.
  Conditions: each contract's own.
-/
import Derived.Test.YtopkabhgkhjecaaGreatValueW
namespace Go.PS
open Go Go.Proofs
set_option maxRecDepth 10000

def nil1 : Nat → Unit := fun _ => ()
/-- A space. -/
def SpA (b : Nat) (s : Sp Unit) : HP := fun h => ∃ (c : Sp Nat) (bm bl mp : Nat) (sv : Value), (c.map nil1 = s ∧ c.Link) ∧ Star (SpO b c bm bl mp sv []) h
structure SpX where
  c : Sp Nat
  bm : Nat
  bl : Nat
  mp : Nat
  sv : Value
theorem sat_sp {G w : World} {L : List HP} {b : Nat} {s : Sp Unit} (H : Sat G w (SpA b s :: L)) : ∃ x : SpX, (x.c.map nil1 = s ∧ x.c.Link) ∧ Sat G w (SpO b x.c x.bm x.bl x.mp x.sv L) := by
  unfold SpA at H
  obtain ⟨c, H⟩ := H.ex
  obtain ⟨bm, H⟩ := H.ex
  obtain ⟨bl, H⟩ := H.ex
  obtain ⟨mp, H⟩ := H.ex
  obtain ⟨sv, H⟩ := H.ex
  obtain ⟨h1, H⟩ := H.pure
  refine ⟨⟨c, bm, bl, mp, sv⟩, h1, ?_⟩
  have := H.ungroup
  simpa [SpO, SpR] using this
theorem sat_mkSp {G w : World} {L : List HP} {b bm bl mp : Nat} {c : Sp Nat} {sv : Value} (hl : c.Link) (H : Sat G w (SpO b c bm bl mp sv L)) : Sat G w (SpA b (c.map nil1) :: L) := by
  have H' : Sat G w (SpO b c bm bl mp sv [] ++ L) := by simpa [SpO, SpR] using H
  exact H'.group.weak fun _ h => ⟨c, bm, bl, mp, sv, ⟨rfl, hl⟩, h⟩

section
variable {G : World} {L F : List HP} {b bm bl mp : Nat} {c : Sp Nat} {sv : Value} {s : Sp Unit}

theorem there_find {key : ByteArray} (ok : c.Ok) (hv : c.vol ≤ 1099511627776) (ht : c.there key = true) : ∃ p, (c.met key).main.find key = some p ∧ (key, p) ∈ (c.met key).main.items := by
  have hm := ok.met hv key
  have hk := (ok.there_mem ht).2
  obtain ⟨p, hp⟩ := Option.isSome_iff_exists.1 (hm.1.wm.find_isSome.2 hk)
  exact ⟨p, hp, hm.1.wm.find_iff.1 hp⟩
theorem okc (h : s.Ok) (hs : c.map nil1 = s) : c.Ok := by subst hs; exact (Sp.map_ok nil1).1 h
theorem volc (h : s.vol ≤ 1099511627776) (hs : c.map nil1 = s) : c.vol ≤ 1099511627776 := by subst hs; exact h

theorem sp_shut' {w : World} {key : ByteArray} {p vp : Nat} {e : PE} {R : List (ByteArray × Nat)} (hp : c.main.items.Perm ((key, p) :: R)) (hu : c.main.keys.Nodup) (hw : Sat G w (SpE b { c with ent := fun k => if k = key then e else c.ent k } bm bl mp sv p vp e R c.ent F)) :
    Sat G w (SpO b (c.setEnt key e) bm bl mp sv F) := by
  refine sp_shut (c := c.setEnt key e) (key := key) (p := p) (vp := vp) (R := R) hp ?_
  have e1 : (c.setEnt key e).ent key = e := Sp.setEnt_at c key e
  rw [e1]
  have hn := D.nodupP hp.symm hu
  simp only [List.map_cons, List.nodup_cons] at hn
  have e2 : entsL R (c.setEnt key e).ent = entsL R c.ent := by
    unfold entsL
    refine List.map_congr_left fun x hx => ?_
    rw [Sp.setEnt_ne]
    intro h
    exact hn.1 (List.mem_map.2 ⟨x, hx, h⟩)
  unfold SpE
  rw [e2]
  exact hw
theorem getS_spec {key : ByteArray} (ok : s.Ok) (hv : s.vol ≤ 1099511627776) (hkey : key.size ≤ 9223372036854775806) : Spec Tryz.prog G 82 [ptrV b, .string key] (SpA b s :: F) fun _ L' => L' = SpA b (s.get key) :: F := by
  refine Spec.exm (fun _ hw => sat_sp hw) ?_
  rintro ⟨c, bm, bl, mp, sv⟩ ⟨hs, hl⟩
  simp only at hs hl ⊢
  replace ok := okc ok hs
  replace hv := volc hv hs
  have hm := ok.met hv key
  have hlm := hl.met ok hv key
  subst hs
  rw [Sp.map_get]
  refine spec_of_run Tryz.func82 rfl rfl ?_
  refine run_seq ?_
  refine run_region ?_
  refine k_val (ev_assign rfl) rfl ?_
  refine k_val (ev_assign rfl) rfl ?_
  refine run_seq ?_
  refine run_region ?_
  refine k_val (ev_move rfl) rfl ?_
  refine k_val (ev_move rfl) rfl ?_
  refine k_call rfl rfl (by kernel_rfl) (met_spec ok hv hkey) ?_
  rintro _ _ ⟨sv', rfl, rfl⟩
  cases ht : c.there key with
  | false =>
    refine k_val (ev_move rfl) rfl ?_
    refine k_val (ev_extract rfl rfl) rfl ?_
    refine k_val (ev_extract rfl rfl) rfl ?_
    refine k_val (ev_assign rfl) rfl ?_
    refine k_val (ev_assign rfl) rfl ?_
    refine run_seq ?_
    refine run_seq ?_
    refine run_region ?_
    refine k_val (ev_move rfl) rfl ?_
    refine k_val (ev_not rfl) rfl ?_
    refine run_cond (t := true) rfl ?_
    refine run_seq ?_
    refine run_region ?_
    refine k_val (ev_assign rfl) rfl ?_
    refine k_val (ev_assign rfl) rfl ?_
    refine Run.mem (ret_spec Tryz.func82 rfl rfl ?_) (fun w hw => sat_mkSp hlm hw)
    unfold Sp.get
    rw [ht]; rfl
  | true =>
    obtain ⟨p, hp, hmem⟩ := there_find ok hv ht
    have hg : c.get key = (c.met key).use key := by unfold Sp.get; rw [ht]; rfl
    rw [hg]
    generalize c.met key = d at *
    obtain ⟨R, hR⟩ := mem_split hmem
    rw [if_pos rfl, hp]
    refine k_val (ev_move rfl) rfl ?_
    refine k_val (ev_extract rfl rfl) rfl ?_
    refine k_val (ev_extract rfl rfl) rfl ?_
    refine k_val (ev_assign rfl) rfl ?_
    refine k_val (ev_assign rfl) rfl ?_
    refine run_seq ?_
    refine run_seq ?_
    refine run_region ?_
    refine k_val (ev_move rfl) rfl ?_
    refine k_val (ev_not rfl) rfl ?_
    refine run_cond (t := false) rfl ?_
    refine run_skip ?_
    refine run_seq ?_
    refine run_region ?_
    refine k_val (ev_move rfl) rfl ?_
    refine k_val (ev_move rfl) rfl ?_
    refine OpK.exm (fun _ hw => sp_open (c := d) hR hw) ?_
    rintro vp -
    refine OpK.perm (L' := Blk b (.cells (spCells d bm bl mp sv') tySp (0, 0)) :: Blk p (.cells (entCells vp (d.ent key)) tyEnt (0, 0)) :: Blk vp (.cells #[.iface tyText (.string (d.ent key).text)] tyVal (0, 0)) :: DictA bm d.main :: DictA bl d.late :: SetAt mp d.touched :: OwnSl 49 2 d.steps.length sv' (stepsV d.steps) :: (entsL R d.ent ++ F)) (by exact perm_pick [2, 0, 0, 0, 0, 0, 0] _) ?_
    refine k_call rfl rfl (by kernel_rfl) use_spec ?_
    rintro _ _ rfl
    refine run_seq ?_
    refine run_region ?_
    refine k_val (ev_move rfl) rfl ?_
    refine k_val (ev_nilCheck rfl) rfl ?_
    refine k_val (ev_fieldAddr0 0 rfl (by kernel_rfl)) rfl ?_
    refine k_val (ev_load rfl (by kernel_rfl)) rfl ?_
    refine k_val (ev_assign rfl) rfl ?_
    refine k_val (ev_assign rfl) rfl ?_
    refine Run.mem (L' := SpA b ((d.use key).map nil1) :: F) (ret_spec Tryz.func82 rfl rfl rfl) (fun w hw => sat_mkSp (bm := bm) (bl := bl) (mp := mp) (sv := sv') ?_ (sp_shut' (c := { d with uses := IntKind.u64.wrap (d.uses + 1) }) (vp := vp) hR hm.1.wm.uniq (e := { d.ent key with stamp := IntKind.u64.wrap (d.uses + 1) }) ?_))
    · exact hlm
    · revert w; exact fun _ hw => sat_pick [1, 1, 0, 0, 0, 0, 0] 0 hw

theorem deleteS_spec {key : ByteArray} (ok : s.Ok) (hv : s.vol ≤ 1099511627776) (hkey : key.size ≤ 9223372036854775806) : Spec Tryz.prog G 83 [ptrV b, .string key] (SpA b s :: F) fun v L' => v = .bool (s.there key) ∧ L' = SpA b (s.delete key) :: F := by
  refine Spec.exm (fun _ hw => sat_sp hw) ?_
  rintro ⟨c, bm, bl, mp, sv⟩ ⟨hs, hl⟩
  simp only at hs hl ⊢
  replace ok := okc ok hs
  replace hv := volc hv hs
  have hm := ok.met hv key
  have hlm := hl.met ok hv key
  subst hs
  rw [Sp.map_delete, Sp.map_there]
  refine spec_of_run Tryz.func83 rfl rfl ?_
  refine run_seq ?_
  refine run_region ?_
  refine k_val (ev_assign rfl) rfl ?_
  refine run_seq ?_
  refine run_region ?_
  refine k_val (ev_move rfl) rfl ?_
  refine k_val (ev_move rfl) rfl ?_
  refine k_call rfl rfl (by kernel_rfl) (met_spec ok hv hkey) ?_
  rintro _ _ ⟨sv', rfl, rfl⟩
  cases ht : c.there key with
  | false =>
    refine k_val (ev_move rfl) rfl ?_
    refine k_val (ev_extract rfl rfl) rfl ?_
    refine k_val (ev_extract rfl rfl) rfl ?_
    refine k_val (ev_assign rfl) rfl ?_
    refine k_val (ev_assign rfl) rfl ?_
    refine run_seq ?_
    refine run_seq ?_
    refine run_region ?_
    refine k_val (ev_move rfl) rfl ?_
    refine run_cond (t := false) rfl ?_
    refine run_skip ?_
    refine run_seq ?_
    refine run_region ?_
    refine k_val (ev_move rfl) rfl ?_
    refine k_val (ev_assign rfl) rfl ?_
    refine Run.mem (ret_spec Tryz.func83 rfl rfl ⟨rfl, ?_⟩) (fun w hw => sat_mkSp hlm hw)
    unfold Sp.delete
    rw [ht]; rfl
  | true =>
    obtain ⟨p, hp, hmem⟩ := there_find ok hv ht
    have hg : c.delete key = (c.met key).goes key := by unfold Sp.delete; rw [ht]; rfl
    rw [hg]
    have hvm : (c.met key).vol ≤ 1099511627776 := by omega
    generalize c.met key = d at *
    rw [if_pos rfl, hp]
    refine k_val (ev_move rfl) rfl ?_
    refine k_val (ev_extract rfl rfl) rfl ?_
    refine k_val (ev_extract rfl rfl) rfl ?_
    refine k_val (ev_assign rfl) rfl ?_
    refine k_val (ev_assign rfl) rfl ?_
    refine run_seq ?_
    refine run_seq ?_
    refine run_region ?_
    refine k_val (ev_move rfl) rfl ?_
    refine run_cond (t := true) rfl ?_
    refine run_region ?_
    refine k_val (ev_move rfl) rfl ?_
    refine k_val (ev_move rfl) rfl ?_
    refine k_val (ev_move rfl) rfl ?_
    refine k_call rfl rfl (by kernel_rfl) (goes_spec hm.1 hvm hmem) ?_
    rintro _ _ rfl
    refine run_seq ?_
    refine run_region ?_
    refine k_val (ev_move rfl) rfl ?_
    refine k_val (ev_assign rfl) rfl ?_
    exact Run.mem (ret_spec Tryz.func83 rfl rfl ⟨rfl, rfl⟩) (fun w hw => sat_mkSp (hlm.goes hm.1 hvm key) hw)

theorem stampS_spec {key : ByteArray} (ok : s.Ok) (hv : s.vol ≤ 1099511627776) (hkey : key.size ≤ 9223372036854775806) : Spec Tryz.prog G 19 [ptrV b, .string key] (SpA b s :: F) fun v L' =>
    v = .tuple #[.int .u64 (if s.there key then (s.ent key).stamp else 0), .bool (s.there key)] ∧ L' = SpA b (s.met key) :: F := by
  refine Spec.exm (fun _ hw => sat_sp hw) ?_
  rintro ⟨c, bm, bl, mp, sv⟩ ⟨hs, hl⟩
  simp only at hs hl ⊢
  replace ok := okc ok hs
  replace hv := volc hv hs
  have hm := ok.met hv key
  have hlm := hl.met ok hv key
  subst hs
  rw [Sp.map_met, Sp.map_there]
  refine spec_of_run Tryz.func19 rfl rfl ?_
  refine run_seq ?_
  refine run_region ?_
  refine k_val (ev_assign rfl) rfl ?_
  refine k_val (ev_assign rfl) rfl ?_
  refine run_seq ?_
  refine run_region ?_
  refine k_val (ev_move rfl) rfl ?_
  refine k_val (ev_move rfl) rfl ?_
  refine k_call rfl rfl (by kernel_rfl) (met_spec ok hv hkey) ?_
  rintro _ _ ⟨sv', rfl, rfl⟩
  cases ht : c.there key with
  | false =>
    refine k_val (ev_move rfl) rfl ?_
    refine k_val (ev_extract rfl rfl) rfl ?_
    refine k_val (ev_extract rfl rfl) rfl ?_
    refine k_val (ev_assign rfl) rfl ?_
    refine k_val (ev_assign rfl) rfl ?_
    refine run_seq ?_
    refine run_seq ?_
    refine run_region ?_
    refine k_val (ev_move rfl) rfl ?_
    refine k_val (ev_not rfl) rfl ?_
    refine run_cond (t := true) rfl ?_
    refine run_seq ?_
    refine run_region ?_
    refine k_val (ev_assign rfl) rfl ?_
    refine k_val (ev_assign rfl) rfl ?_
    exact Run.mem (ret_spec Tryz.func19 rfl rfl ⟨rfl, rfl⟩) (fun w hw => sat_mkSp hlm hw)
  | true =>
    obtain ⟨p, hp, hmem⟩ := there_find ok hv ht
    have he : (c.met key).ent = c.ent := by rw [Sp.met_there ok ht]; rfl
    have hst : ((c.map nil1).ent key).stamp = ((c.met key).ent key).stamp := by rw [he]; rfl
    rw [hst]
    generalize c.met key = d at *
    obtain ⟨R, hR⟩ := mem_split hmem
    rw [if_pos rfl, hp]
    refine k_val (ev_move rfl) rfl ?_
    refine k_val (ev_extract rfl rfl) rfl ?_
    refine k_val (ev_extract rfl rfl) rfl ?_
    refine k_val (ev_assign rfl) rfl ?_
    refine k_val (ev_assign rfl) rfl ?_
    refine run_seq ?_
    refine run_seq ?_
    refine run_region ?_
    refine k_val (ev_move rfl) rfl ?_
    refine k_val (ev_not rfl) rfl ?_
    refine run_cond (t := false) rfl ?_
    refine run_skip ?_
    refine run_seq ?_
    refine run_region ?_
    refine k_val (ev_move rfl) rfl ?_
    refine k_val (ev_nilCheck rfl) rfl ?_
    refine k_val (ev_fieldAddr0 2 rfl (by kernel_rfl)) rfl ?_
    refine OpK.exm (fun _ hw => sp_open (c := d) hR hw) ?_
    rintro vp -
    refine k_val (ev_load rfl (by kernel_rfl)) rfl ?_
    refine k_val (ev_assign rfl) rfl ?_
    refine k_val (ev_assign rfl) rfl ?_
    exact Run.mem (ret_spec Tryz.func19 rfl rfl ⟨rfl, rfl⟩) (fun w hw => sat_mkSp hlm (sp_shut hR hw))

theorem deadlineS_spec {key : ByteArray} (ok : s.Ok) (hv : s.vol ≤ 1099511627776) (hkey : key.size ≤ 9223372036854775806) : Spec Tryz.prog G 20 [ptrV b, .string key] (SpA b s :: F) fun v L' =>
    v = .tuple #[.int .i64 (if s.there key then (s.ent key).at_ else 0), .bool (s.there key && decide ((s.ent key).at_ ≠ 0))] ∧ L' = SpA b (s.met key) :: F := by
  refine Spec.exm (fun _ hw => sat_sp hw) ?_
  rintro ⟨c, bm, bl, mp, sv⟩ ⟨hs, hl⟩
  simp only at hs hl ⊢
  replace ok := okc ok hs
  replace hv := volc hv hs
  have hm := ok.met hv key
  have hlm := hl.met ok hv key
  subst hs
  rw [Sp.map_met, Sp.map_there]
  refine spec_of_run Tryz.func20 rfl rfl ?_
  refine run_seq ?_
  refine run_region ?_
  refine k_val (ev_assign rfl) rfl ?_
  refine k_val (ev_assign rfl) rfl ?_
  refine run_seq ?_
  refine run_region ?_
  refine k_val (ev_move rfl) rfl ?_
  refine k_val (ev_move rfl) rfl ?_
  refine k_call rfl rfl (by kernel_rfl) (met_spec ok hv hkey) ?_
  rintro _ _ ⟨sv', rfl, rfl⟩
  cases ht : c.there key with
  | false =>
    refine k_val (ev_move rfl) rfl ?_
    refine k_val (ev_extract rfl rfl) rfl ?_
    refine k_val (ev_extract rfl rfl) rfl ?_
    refine k_val (ev_assign rfl) rfl ?_
    refine k_val (ev_assign rfl) rfl ?_
    refine run_seq ?_
    refine run_seq ?_
    refine run_region ?_
    refine k_val (ev_move rfl) rfl ?_
    refine k_val (ev_not rfl) rfl ?_
    refine k_val (ev_move rfl) rfl ?_
    refine k_skip rfl rfl rfl rfl ?_
    refine k_skip rfl rfl rfl rfl ?_
    refine k_skip rfl rfl rfl rfl ?_
    refine k_skip rfl rfl rfl rfl ?_
    refine k_skip rfl rfl rfl rfl ?_
    refine k_val (ev_pickT rfl rfl) rfl ?_
    refine run_cond (t := true) rfl ?_
    refine run_seq ?_
    refine run_region ?_
    refine k_val (ev_assign rfl) rfl ?_
    refine k_val (ev_assign rfl) rfl ?_
    exact Run.mem (ret_spec Tryz.func20 rfl rfl ⟨rfl, rfl⟩) (fun w hw => sat_mkSp hlm hw)
  | true =>
    obtain ⟨p, hp, hmem⟩ := there_find ok hv ht
    have he : (c.met key).ent = c.ent := by rw [Sp.met_there ok ht]; rfl
    have hst : ((c.map nil1).ent key).at_ = ((c.met key).ent key).at_ := by rw [he]; rfl
    rw [hst]
    generalize c.met key = d at *
    obtain ⟨R, hR⟩ := mem_split hmem
    rw [if_pos rfl, hp]
    refine k_val (ev_move rfl) rfl ?_
    refine k_val (ev_extract rfl rfl) rfl ?_
    refine k_val (ev_extract rfl rfl) rfl ?_
    refine k_val (ev_assign rfl) rfl ?_
    refine k_val (ev_assign rfl) rfl ?_
    refine run_seq ?_
    refine run_seq ?_
    refine run_region ?_
    refine k_val (ev_move rfl) rfl ?_
    refine k_val (ev_not rfl) rfl ?_
    refine k_val (ev_move rfl) rfl ?_
    refine k_guard rfl rfl rfl ?_
    refine k_val (ev_move rfl) rfl ?_
    refine k_guard rfl rfl rfl ?_
    refine k_val (ev_nilCheck rfl) rfl ?_
    refine k_guard rfl rfl rfl ?_
    refine k_val (ev_fieldAddr0 3 rfl (by kernel_rfl)) rfl ?_
    refine k_guard rfl rfl rfl ?_
    refine OpK.exm (fun _ hw => sp_open (c := d) hR hw) ?_
    rintro vp -
    by_cases h0 : (d.ent key).at_ = 0
    · refine k_val (ev_load rfl (by kernel_rfl)) rfl ?_
      refine k_guard rfl rfl rfl ?_
      refine k_val (ev_bT (ev_eqI rfl rfl) (by first | assumption | omega)) rfl ?_
      refine k_val (ev_pickF rfl rfl) rfl ?_
      refine run_cond (t := true) rfl ?_
      refine run_seq ?_
      refine run_region ?_
      refine k_val (ev_assign rfl) rfl ?_
      refine k_val (ev_assign rfl) rfl ?_
      refine Run.mem (ret_spec Tryz.func20 rfl rfl ⟨?_, rfl⟩) (fun w hw => sat_mkSp hlm (sp_shut hR hw))
      simp [packed, h0]
    · refine k_val (ev_load rfl (by kernel_rfl)) rfl ?_
      refine k_guard rfl rfl rfl ?_
      refine k_val (ev_bF (ev_eqI rfl rfl) (by first | assumption | omega)) rfl ?_
      refine k_val (ev_pickF rfl rfl) rfl ?_
      refine run_cond (t := false) rfl ?_
      refine run_skip ?_
      refine run_seq ?_
      refine run_region ?_
      refine k_val (ev_move rfl) rfl ?_
      refine k_val (ev_nilCheck rfl) rfl ?_
      refine k_val (ev_fieldAddr0 3 rfl (by kernel_rfl)) rfl ?_
      refine k_val (ev_load rfl (by kernel_rfl)) rfl ?_
      refine k_val (ev_assign rfl) rfl ?_
      refine k_val (ev_assign rfl) rfl ?_
      refine Run.mem (ret_spec Tryz.func20 rfl rfl ⟨?_, rfl⟩) (fun w hw => sat_mkSp hlm (sp_shut hR hw))
      simp [packed, h0]

theorem tickS_spec (now : Int) : Spec Tryz.prog G 81 [ptrV b, .int .i64 now] (SpA b s :: F) fun _ L' => L' = SpA b (s.tick now) :: F := by
  refine Spec.exm (fun _ hw => sat_sp hw) ?_
  rintro ⟨c, bm, bl, mp, sv⟩ ⟨hs, hl⟩
  simp only at hs hl ⊢
  subst hs
  rw [Sp.map_tick]
  refine spec_of_run Tryz.func81 rfl rfl ?_
  unfold Sp.tick
  by_cases h1 : now < 0
  · rw [if_pos (.inl h1)]
    refine run_seq ?_
    refine run_region ?_
    refine k_val (ev_assign rfl) rfl ?_
    refine run_seq ?_
    refine run_seq ?_
    refine run_region ?_
    refine k_val (ev_move rfl) rfl ?_
    refine k_val (ev_eqNil rfl rfl (by kernel_rfl)) rfl ?_
    refine run_cond (t := false) rfl ?_
    refine run_skip ?_
    refine run_seq ?_
    refine run_seq ?_
    refine run_region ?_
    refine k_val (ev_move rfl) rfl ?_
    refine k_val (ev_bT (ev_lt rfl rfl) (by first | assumption | omega)) rfl ?_
    refine k_val (ev_move rfl) rfl ?_
    refine k_skip rfl rfl rfl rfl ?_
    refine k_skip rfl rfl rfl rfl ?_
    refine k_val (ev_pickT rfl rfl) rfl ?_
    refine run_cond (t := true) rfl ?_
    refine run_seq ?_
    refine run_region ?_
    refine k_val (ev_assign rfl) rfl ?_
    exact Run.mem (ret_spec Tryz.func81 rfl rfl rfl) (fun w hw => sat_mkSp hl hw)
  · by_cases h2 : 9007199254740992 < now
    · rw [if_pos (.inr h2)]
      refine run_seq ?_
      refine run_region ?_
      refine k_val (ev_assign rfl) rfl ?_
      refine run_seq ?_
      refine run_seq ?_
      refine run_region ?_
      refine k_val (ev_move rfl) rfl ?_
      refine k_val (ev_eqNil rfl rfl (by kernel_rfl)) rfl ?_
      refine run_cond (t := false) rfl ?_
      refine run_skip ?_
      refine run_seq ?_
      refine run_seq ?_
      refine run_region ?_
      refine k_val (ev_move rfl) rfl ?_
      refine k_val (ev_bF (ev_lt rfl rfl) (by first | assumption | omega)) rfl ?_
      refine k_val (ev_move rfl) rfl ?_
      refine k_guard rfl rfl rfl ?_
      refine k_val (ev_move rfl) rfl ?_
      refine k_guard rfl rfl rfl ?_
      refine k_val (ev_bT (ev_gt rfl rfl) (by first | assumption | omega)) rfl ?_
      refine k_val (ev_pickF rfl rfl) rfl ?_
      refine run_cond (t := true) rfl ?_
      refine run_seq ?_
      refine run_region ?_
      refine k_val (ev_assign rfl) rfl ?_
      exact Run.mem (ret_spec Tryz.func81 rfl rfl rfl) (fun w hw => sat_mkSp hl hw)
    · rw [if_neg (by simp [h1, h2])]
      refine run_seq ?_
      refine run_region ?_
      refine k_val (ev_assign rfl) rfl ?_
      refine run_seq ?_
      refine run_seq ?_
      refine run_region ?_
      refine k_val (ev_move rfl) rfl ?_
      refine k_val (ev_eqNil rfl rfl (by kernel_rfl)) rfl ?_
      refine run_cond (t := false) rfl ?_
      refine run_skip ?_
      refine run_seq ?_
      refine run_seq ?_
      refine run_region ?_
      refine k_val (ev_move rfl) rfl ?_
      refine k_val (ev_bF (ev_lt rfl rfl) (by first | assumption | omega)) rfl ?_
      refine k_val (ev_move rfl) rfl ?_
      refine k_guard rfl rfl rfl ?_
      refine k_val (ev_move rfl) rfl ?_
      refine k_guard rfl rfl rfl ?_
      refine k_val (ev_bF (ev_gt rfl rfl) (by first | assumption | omega)) rfl ?_
      refine k_val (ev_pickF rfl rfl) rfl ?_
      refine run_cond (t := false) rfl ?_
      refine run_skip ?_
      refine run_seq ?_
      refine run_region ?_
      refine k_val (ev_move rfl) rfl ?_
      refine k_val (ev_move rfl) rfl ?_
      refine k_val (ev_nilCheck rfl) rfl ?_
      refine k_val (ev_fieldAddr0 4 rfl (by kernel_rfl)) rfl ?_
      refine k_val (ev_load rfl (by kernel_rfl)) rfl ?_
      refine k_val (ev_move rfl) rfl ?_
      refine k_val (ev_maxI rfl rfl) rfl ?_
      refine k_val (ev_nilCheck rfl) rfl ?_
      refine k_val (ev_fieldAddr0 4 rfl (by kernel_rfl)) rfl ?_
      refine k_store rfl rfl rfl rfl (by kernel_rfl) ?_
      refine run_seq ?_
      refine run_region ?_
      refine k_val (ev_assign rfl) rfl ?_
      rw [show (if now > c.now then now else c.now) = max c.now now by split <;> omega]
      exact Run.mem (ret_spec Tryz.func81 rfl rfl rfl) (fun w hw => sat_mkSp (c := { c with now := max c.now now }) hl hw)

theorem configS_spec : Spec Tryz.prog G 48 [ptrV b] (SpA b s :: F) fun v L' => v = .agg #[.int .u64 s.cfg.seed, .int .i64 s.cfg.most, .int .i64 s.cfg.policy, .int .i64 s.cfg.samples] ∧ L' = SpA b s :: F := by
  refine Spec.exm (fun _ hw => sat_sp hw) ?_
  rintro ⟨c, bm, bl, mp, sv⟩ ⟨hs, hl⟩
  simp only at hs hl ⊢
  subst hs
  exact (config_spec (c := c) (bm := bm) (bl := bl) (mp := mp) (sv := sv)).post fun v L' ⟨h1, X, h2⟩ => ⟨_, ⟨h1, rfl⟩, fun w hw => by subst h2; exact sat_mkSp hl hw.tail⟩
theorem nowS_spec : Spec Tryz.prog G 26 [ptrV b] (SpA b s :: F) fun v L' => v = .int .i64 s.now ∧ L' = SpA b s :: F := by
  refine Spec.exm (fun _ hw => sat_sp hw) ?_
  rintro ⟨c, bm, bl, mp, sv⟩ ⟨hs, hl⟩
  simp only at hs hl ⊢
  subst hs
  exact (now_spec (c := c) (bm := bm) (bl := bl) (mp := mp) (sv := sv)).post fun v L' ⟨h1, h2⟩ => ⟨_, ⟨h1, rfl⟩, fun w hw => by subst h2; exact sat_mkSp hl hw⟩
theorem usedS_spec : Spec Tryz.prog G 15 [ptrV b] (SpA b s :: F) fun v L' => v = .int .i64 s.used ∧ L' = SpA b s :: F := by
  refine Spec.exm (fun _ hw => sat_sp hw) ?_
  rintro ⟨c, bm, bl, mp, sv⟩ ⟨hs, hl⟩
  simp only at hs hl ⊢
  subst hs
  exact (used_spec (c := c) (bm := bm) (bl := bl) (mp := mp) (sv := sv)).post fun v L' ⟨h1, h2⟩ => ⟨_, ⟨h1, rfl⟩, fun w hw => by subst h2; exact sat_mkSp hl hw⟩
theorem stepsS_spec : Spec Tryz.prog G 17 [ptrV b] (SpA b s :: F) fun v L' => L' = SpA b { s with steps := [] } :: OwnSl 49 2 s.steps.length v (stepsV s.steps) :: F := by
  refine Spec.exm (fun _ hw => sat_sp hw) ?_
  rintro ⟨c, bm, bl, mp, sv⟩ ⟨hs, hl⟩
  simp only at hs hl ⊢
  subst hs
  refine spec_of_run Tryz.func17 rfl rfl ?_
  refine run_seq ?_
  refine run_region ?_
  refine k_val (ev_assign rfl) rfl ?_
  refine run_seq ?_
  refine run_seq ?_
  refine run_region ?_
  refine k_val (ev_move rfl) rfl ?_
  refine k_val (ev_eqNil rfl rfl (by kernel_rfl)) rfl ?_
  refine run_cond (t := false) rfl ?_
  refine run_skip ?_
  refine run_seq ?_
  refine run_region ?_
  refine k_val (ev_move rfl) rfl ?_
  refine k_val (ev_nilCheck rfl) rfl ?_
  refine k_val (ev_fieldAddr0 10 rfl (by kernel_rfl)) rfl ?_
  refine k_val (ev_load rfl (by kernel_rfl)) rfl ?_
  refine k_val (ev_assign rfl) rfl ?_
  refine run_seq ?_
  refine run_region ?_
  refine k_val (ev_move rfl) rfl ?_
  refine k_val (ev_nilCheck rfl) rfl ?_
  refine k_val (ev_fieldAddr0 10 rfl (by kernel_rfl)) rfl ?_
  refine k_store rfl rfl rfl rfl (by kernel_rfl) ?_
  refine run_seq ?_
  refine run_region ?_
  refine k_val (ev_move rfl) rfl ?_
  refine k_val (ev_assign rfl) rfl ?_
  refine Run.mem (L' := SpA b { c.map nil1 with steps := [] } :: OwnSl 49 2 c.steps.length sv (stepsV c.steps) :: F) (ret_spec Tryz.func17 rfl rfl rfl) (fun w hw => sat_mkSp (bm := bm) (bl := bl) (mp := mp) (sv := .slice none 0 0) (c := { c with steps := [] }) hl ?_)
  have h1 := sat_ownNil (e := 49) (sz := 2) hw
  refine h1.perm ?_
  refine List.Perm.trans (List.perm_middle (l₁ := [_, _, _, _]) (l₂ := _)).symm ?_
  refine .cons _ (.cons _ (.cons _ (.cons _ (.cons _ ?_))))
  exact List.perm_middle.symm

theorem evictS_spec {key : ByteArray} (ok : s.Ok) (hv : s.vol ≤ 1099511627776) (hkey : key.size ≤ 9223372036854775806) : Spec Tryz.prog G 51 [ptrV b, .string key] (SpA b s :: F) fun v L' => v = .bool (s.there key) ∧ L' = SpA b (s.evict key) :: F := by
  refine spec_of_run Tryz.func51 rfl rfl ?_
  refine run_seq ?_
  refine run_region ?_
  refine k_val (ev_assign rfl) rfl ?_
  refine run_seq ?_
  refine run_region ?_
  refine k_val (ev_move rfl) rfl ?_
  refine k_val (ev_move rfl) rfl ?_
  refine k_call rfl rfl (by kernel_rfl) (deleteS_spec ok hv hkey) ?_
  rintro _ _ ⟨rfl, rfl⟩
  cases ht : s.there key with
  | false =>
    refine k_val (ev_assign rfl) rfl ?_
    refine run_seq ?_
    refine run_seq ?_
    refine run_region ?_
    refine k_val (ev_move rfl) rfl ?_
    refine run_cond (t := false) rfl ?_
    refine run_skip ?_
    refine run_seq ?_
    refine run_region ?_
    refine k_val (ev_move rfl) rfl ?_
    refine k_val (ev_assign rfl) rfl ?_
    refine ret_spec Tryz.func51 rfl rfl ⟨rfl, ?_⟩
    unfold Sp.evict Sp.delete
    rw [ht]; rfl
  | true =>
    have he : s.evict key = { s.delete key with steps := (s.delete key).steps ++ [(2, key)] } := by
      unfold Sp.evict Sp.delete
      rw [ht]
      simp only [if_true]
      have : ((s.met key).goes key).steps = s.steps := Sp.met_steps ok ht
      rw [this]
    rw [he]
    have hvd := (ok.delete hv key).2
    generalize s.delete key = d at *
    refine k_val (ev_assign rfl) rfl ?_
    refine run_seq ?_
    refine run_seq ?_
    refine run_region ?_
    refine k_val (ev_move rfl) rfl ?_
    refine run_cond (t := true) rfl ?_
    refine run_region ?_
    refine k_val (ev_move rfl) rfl ?_
    refine k_val (ev_move rfl) rfl ?_
    refine k_val (ev_nilCheck rfl) rfl ?_
    refine k_val (ev_fieldAddr0 10 rfl (by kernel_rfl)) rfl ?_
    refine OpK.exm (fun _ hw => sat_sp hw) ?_
    rintro ⟨c, bm, bl, mp, sv⟩ ⟨hs, hl⟩
    simp only at hs hl ⊢
    have hvs : c.steps.length ≤ 1099511627776 := by
      have : c.steps = d.steps := by rw [← hs]; rfl
      rw [this]
      unfold Sp.vol at hvd hv
      omega
    subst hs
    refine k_val (ev_load rfl (by kernel_rfl)) rfl ?_
    refine k_val (ev_move rfl) rfl ?_
    refine k_val (ev_build1 [.int .i64 0, .string ByteArray.empty] [0, 1] (by kernel_rfl) (by kernel_rfl) rfl rfl rfl) rfl ?_
    refine k_buildSlice1 (e := 49) (B := 24) (z := #[.int .i64 0, .string ByteArray.empty]) rfl ⟨by kernel_rfl, by kernel_rfl, by kernel_rfl, by kernel_rfl⟩ rfl (by decide) (by decide) rfl ?_
    intro nb1
    refine k_append1 (e := 49) (B := 24) (z := #[.int .i64 0, .string ByteArray.empty]) 2 rfl rfl ⟨by kernel_rfl, by kernel_rfl, by kernel_rfl, by kernel_rfl⟩ rfl (by kernel_rfl) rfl rfl (by decide) (by omega) rfl ?_
    intro nv1 hnv1
    refine k_val (ev_nilCheck rfl) rfl ?_
    refine k_val (ev_fieldAddr0 10 rfl (by kernel_rfl)) rfl ?_
    refine k_store rfl rfl rfl (by assumption) (by kernel_rfl) ?_
    refine run_seq ?_
    refine run_region ?_
    refine k_val (ev_move rfl) rfl ?_
    refine k_val (ev_assign rfl) rfl ?_
    refine Run.mem (L' := SpA b (({ c with steps := c.steps ++ [(2, key)] } : Sp Nat).map nil1) :: F) (ret_spec Tryz.func51 rfl rfl ⟨rfl, rfl⟩) (fun w hw => sat_mkSp (bm := bm) (bl := bl) (mp := mp) (sv := nv1) (c := { c with steps := c.steps ++ [(2, key)] }) hl ?_)
    have e : stepsV (c.steps ++ [(2, key)]) = stepsV c.steps ++ (Value.agg #[.int .i64 2, .string key]).cells.toList := by
      simp [stepsV, stepV, Value.cells]
    have e2 : (c.steps ++ [(2, key)]).length = c.steps.length + 1 := by simp
    unfold SpO SpR
    simp only
    rw [e, e2]
    revert w
    exact fun _ hw => sat_pick [2, 2, 2, 2, 0] 1 hw

theorem persistS_spec {key : ByteArray} (ok : s.Ok) (hv : s.vol ≤ 1099511627776) (hkey : key.size ≤ 9223372036854775806) : Spec Tryz.prog G 84 [ptrV b, .string key] (SpA b s :: F) fun _ L' => L' = SpA b (s.persist key) :: F := by
  refine Spec.exm (fun _ hw => sat_sp hw) ?_
  rintro ⟨c, bm, bl, mp, sv⟩ ⟨hs, hl⟩
  simp only at hs hl ⊢
  replace ok := okc ok hs
  replace hv := volc hv hs
  have hm := ok.met hv key
  have hlm := hl.met ok hv key
  subst hs
  rw [Sp.map_persist]
  refine spec_of_run Tryz.func84 rfl rfl ?_
  refine run_seq ?_
  refine run_region ?_
  refine k_val (ev_assign rfl) rfl ?_
  refine run_seq ?_
  refine run_region ?_
  refine k_val (ev_move rfl) rfl ?_
  refine k_val (ev_move rfl) rfl ?_
  refine k_call rfl rfl (by kernel_rfl) (met_spec ok hv hkey) ?_
  rintro _ _ ⟨sv', rfl, rfl⟩
  cases ht : c.there key with
  | false =>
    have hg : c.persist key = c.met key := by unfold Sp.persist; rw [ht]; rfl
    rw [hg]
    refine k_val (ev_move rfl) rfl ?_
    refine k_val (ev_extract rfl rfl) rfl ?_
    refine k_val (ev_extract rfl rfl) rfl ?_
    refine k_val (ev_assign rfl) rfl ?_
    refine k_val (ev_assign rfl) rfl ?_
    refine run_seq ?_
    refine run_seq ?_
    refine run_region ?_
    refine k_val (ev_move rfl) rfl ?_
    refine k_val (ev_not rfl) rfl ?_
    refine k_val (ev_move rfl) rfl ?_
    refine k_skip rfl rfl rfl rfl ?_
    refine k_skip rfl rfl rfl rfl ?_
    refine k_skip rfl rfl rfl rfl ?_
    refine k_skip rfl rfl rfl rfl ?_
    refine k_skip rfl rfl rfl rfl ?_
    refine k_val (ev_pickT rfl rfl) rfl ?_
    refine run_cond (t := true) rfl ?_
    refine run_seq ?_
    refine run_region ?_
    refine k_val (ev_assign rfl) rfl ?_
    exact Run.mem (ret_spec Tryz.func84 rfl rfl rfl) (fun w hw => sat_mkSp hlm hw)
  | true =>
    obtain ⟨p, hp, hmem⟩ := there_find ok hv ht
    have he : (c.met key).ent = c.ent := by rw [Sp.met_there ok ht]; rfl
    have hg : c.persist key = if ((c.met key).ent key).at_ ≠ 0 then (c.met key).undated key else c.met key := by
      unfold Sp.persist
      rw [ht, he]; simp
    have hvm : (c.met key).vol ≤ 1099511627776 := by omega
    rw [hg]
    clear hg
    generalize c.met key = d at *
    obtain ⟨hn, hld, hu0, hu1⟩ := hm.1.bound hvm
    have hkk := hm.1.key key (D.mem_keys hmem)
    obtain ⟨R, hR⟩ := mem_split hmem
    rw [if_pos rfl, hp]
    refine k_val (ev_move rfl) rfl ?_
    refine k_val (ev_extract rfl rfl) rfl ?_
    refine k_val (ev_extract rfl rfl) rfl ?_
    refine k_val (ev_assign rfl) rfl ?_
    refine k_val (ev_assign rfl) rfl ?_
    refine run_seq ?_
    refine run_seq ?_
    refine run_region ?_
    refine k_val (ev_move rfl) rfl ?_
    refine k_val (ev_not rfl) rfl ?_
    refine k_val (ev_move rfl) rfl ?_
    refine k_guard rfl rfl rfl ?_
    refine k_val (ev_move rfl) rfl ?_
    refine k_guard rfl rfl rfl ?_
    refine k_val (ev_nilCheck rfl) rfl ?_
    refine k_guard rfl rfl rfl ?_
    refine k_val (ev_fieldAddr0 3 rfl (by kernel_rfl)) rfl ?_
    refine k_guard rfl rfl rfl ?_
    refine OpK.exm (fun _ hw => sp_open (c := d) hR hw) ?_
    rintro vp -
    by_cases h0 : (d.ent key).at_ = 0
    · rw [if_neg (by simp [h0])]
      refine k_val (ev_load rfl (by kernel_rfl)) rfl ?_
      refine k_guard rfl rfl rfl ?_
      refine k_val (ev_bT (ev_eqI rfl rfl) (by first | assumption | omega)) rfl ?_
      refine k_val (ev_pickF rfl rfl) rfl ?_
      refine run_cond (t := true) rfl ?_
      refine run_seq ?_
      refine run_region ?_
      refine k_val (ev_assign rfl) rfl ?_
      exact Run.mem (ret_spec Tryz.func84 rfl rfl rfl) (fun w hw => sat_mkSp hlm (sp_shut hR hw))
    · rw [if_pos h0]
      have hone := hm.1.one (D.mem_keys hmem)
      have hc16 : 16 ≤ d.used := by
        unfold Sp.costs at hone
        rw [if_pos (by omega)] at hone
        omega
      refine k_val (ev_load rfl (by kernel_rfl)) rfl ?_
      refine k_guard rfl rfl rfl ?_
      refine k_val (ev_bF (ev_eqI rfl rfl) (by first | assumption | omega)) rfl ?_
      refine k_val (ev_pickF rfl rfl) rfl ?_
      refine run_cond (t := false) rfl ?_
      refine run_skip ?_
      refine run_seq ?_
      refine run_region ?_
      refine k_val (ev_move rfl) rfl ?_
      refine k_val (ev_nilCheck rfl) rfl ?_
      refine k_val (ev_fieldAddr0 8 rfl (by kernel_rfl)) rfl ?_
      refine k_val (ev_load rfl (by kernel_rfl)) rfl ?_
      refine k_val (ev_move rfl) rfl ?_
      refine k_call rfl rfl (by kernel_rfl) (delF_spec key hm.1.wl (by omega) hld) ?_
      rintro _ _ ⟨-, rfl⟩
      refine run_seq ?_
      refine run_region ?_
      refine k_val (ev_move rfl) rfl ?_
      refine k_val (ev_nilCheck rfl) rfl ?_
      refine k_val (ev_fieldAddr0 3 rfl (by kernel_rfl)) rfl ?_
      refine k_store rfl rfl rfl rfl (by kernel_rfl) ?_
      refine run_seq ?_
      refine run_region ?_
      refine k_val (ev_move rfl) rfl ?_
      refine k_val (ev_nilCheck rfl) rfl ?_
      refine k_val (ev_fieldAddr0 6 rfl (by kernel_rfl)) rfl ?_
      refine k_val (ev_load rfl (by kernel_rfl)) rfl ?_
      refine k_val (ev_subI rfl rfl (by omega)) rfl ?_
      refine k_val (ev_nilCheck rfl) rfl ?_
      refine k_val (ev_fieldAddr0 6 rfl (by kernel_rfl)) rfl ?_
      refine k_store rfl rfl rfl rfl (by kernel_rfl) ?_
      refine run_seq ?_
      refine run_region ?_
      refine k_val (ev_move rfl) rfl ?_
      refine k_val (ev_move rfl) rfl ?_
      refine OpK.mem (L' := SpO b ({ (d.setEnt key { d.ent key with at_ := 0 }) with used := d.used - 16, late := d.late.delete key } : Sp Nat) bm bl mp sv' F) ?_ ?_
      · intro w hw
        refine sp_shut' (c := { d with used := d.used - 16, late := d.late.delete key }) (vp := vp) hR hm.1.wm.uniq (e := { d.ent key with at_ := 0 }) ?_
        revert w; exact fun _ hw => sat_pick [1, 1, 1, 1, 0, 0, 0] 0 hw
      refine k_call rfl rfl (by kernel_rfl) (touch_spec (c := ({ (d.setEnt key { d.ent key with at_ := 0 }) with used := d.used - 16, late := d.late.delete key } : Sp Nat)) key) ?_
      rintro _ _ rfl
      refine run_seq ?_
      refine run_region ?_
      refine k_val (ev_assign rfl) rfl ?_
      exact Run.mem (L' := SpA b ((d.undated key).map nil1) :: F) (ret_spec Tryz.func84 rfl rfl rfl) (fun w hw => sat_mkSp (bm := bm) (bl := bl) (mp := mp) (sv := sv') (hlm.undated hm.1 hvm key) hw)

theorem setDeadlineS_spec {key : ByteArray} (at_ : Int) (ok : s.Ok) (hv : s.vol ≤ 1099511627776) (hkey : key.size ≤ 9223372036854775806) : Spec Tryz.prog G 80 [ptrV b, .string key, .int .i64 at_] (SpA b s :: F) fun _ L' => L' = SpA b (s.setDeadline key at_ ()) :: F := by
  refine Spec.exm (fun _ hw => sat_sp hw) ?_
  rintro ⟨c, bm, bl, mp, sv⟩ ⟨hs, hl⟩
  simp only at hs hl ⊢
  replace ok := okc ok hs
  replace hv := volc hv hs
  have hm := ok.met hv key
  have hlm := hl.met ok hv key
  subst hs
  refine spec_of_run Tryz.func80 rfl rfl ?_
  refine run_seq ?_
  refine run_region ?_
  refine k_val (ev_assign rfl) rfl ?_
  refine run_seq ?_
  refine run_region ?_
  refine k_val (ev_move rfl) rfl ?_
  refine k_val (ev_move rfl) rfl ?_
  refine k_call rfl rfl (by kernel_rfl) (met_spec ok hv hkey) ?_
  rintro _ _ ⟨sv', rfl, rfl⟩
  cases ht : c.there key with
  | false =>
    have hg : (c.map nil1).setDeadline key at_ () = (c.met key).map nil1 := by
      rw [show () = nil1 0 from rfl, Sp.map_setDeadline]
      unfold Sp.setDeadline; rw [ht]; rfl
    rw [hg]
    refine k_val (ev_move rfl) rfl ?_
    refine k_val (ev_extract rfl rfl) rfl ?_
    refine k_val (ev_extract rfl rfl) rfl ?_
    refine k_val (ev_assign rfl) rfl ?_
    refine k_val (ev_assign rfl) rfl ?_
    refine run_seq ?_
    refine run_seq ?_
    refine run_region ?_
    refine k_val (ev_move rfl) rfl ?_
    refine k_val (ev_not rfl) rfl ?_
    refine k_val (ev_move rfl) rfl ?_
    refine k_skip rfl rfl rfl rfl ?_
    refine k_skip rfl rfl rfl rfl ?_
    refine k_val (ev_pickT rfl rfl) rfl ?_
    refine run_cond (t := true) rfl ?_
    refine run_seq ?_
    refine run_region ?_
    refine k_val (ev_assign rfl) rfl ?_
    exact Run.mem (ret_spec Tryz.func80 rfl rfl rfl) (fun w hw => sat_mkSp hlm hw)
  | true =>
    obtain ⟨p, hp, hmem⟩ := there_find ok hv ht
    have hg : (c.map nil1).setDeadline key at_ () = (if 9007199254740992 < at_ then c.met key else if at_ ≤ (c.met key).now then (c.met key).goes key else (c.met key).dated key at_ p).map nil1 := by
      rw [show () = nil1 p from rfl, Sp.map_setDeadline]
      unfold Sp.setDeadline
      rw [ht]
      by_cases h : 9007199254740992 < at_ <;> simp [h]
    have hvm : (c.met key).vol ≤ 1099511627776 := by omega
    rw [hg]
    clear hg
    generalize c.met key = d at *
    obtain ⟨hn, hld, hu0, hu1⟩ := hm.1.bound hvm
    obtain ⟨hk1, hk2, hk3, hk4⟩ := hm.1.key key (D.mem_keys hmem)
    have hnow := hm.1.now
    rw [if_pos rfl, hp]
    refine k_val (ev_move rfl) rfl ?_
    refine k_val (ev_extract rfl rfl) rfl ?_
    refine k_val (ev_extract rfl rfl) rfl ?_
    refine k_val (ev_assign rfl) rfl ?_
    refine k_val (ev_assign rfl) rfl ?_
    refine run_seq ?_
    refine run_seq ?_
    refine run_region ?_
    refine k_val (ev_move rfl) rfl ?_
    refine k_val (ev_not rfl) rfl ?_
    refine k_val (ev_move rfl) rfl ?_
    refine k_guard rfl rfl rfl ?_
    refine k_val (ev_move rfl) rfl ?_
    refine k_guard rfl rfl rfl ?_
    refine k_val (ev_gt rfl rfl) rfl ?_
    refine k_val (ev_pickF rfl rfl) rfl ?_
    by_cases h1 : 9007199254740992 < at_
    · rw [if_pos h1]
      refine run_ifT rfl (by first | assumption | omega) ?_
      refine run_seq ?_
      refine run_region ?_
      refine k_val (ev_assign rfl) rfl ?_
      exact Run.mem (ret_spec Tryz.func80 rfl rfl rfl) (fun w hw => sat_mkSp hlm hw)
    · rw [if_neg h1]
      by_cases h2 : at_ ≤ d.now
      · rw [if_pos h2]
        refine run_ifF rfl (by first | assumption | omega) ?_
        refine run_skip ?_
        refine run_seq ?_
        refine run_seq ?_
        refine run_region ?_
        refine k_val (ev_move rfl) rfl ?_
        refine k_val (ev_move rfl) rfl ?_
        refine k_val (ev_nilCheck rfl) rfl ?_
        refine k_val (ev_fieldAddr0 4 rfl (by kernel_rfl)) rfl ?_
        refine k_val (ev_load rfl (by kernel_rfl)) rfl ?_
        refine k_val (ev_bT (ev_le rfl rfl) (by first | assumption | omega)) rfl ?_
        refine run_cond (t := true) rfl ?_
        refine run_seq ?_
        refine run_region ?_
        refine k_val (ev_move rfl) rfl ?_
        refine k_val (ev_move rfl) rfl ?_
        refine k_val (ev_move rfl) rfl ?_
        refine k_call rfl rfl (by kernel_rfl) (goes_spec hm.1 hvm hmem) ?_
        rintro _ _ rfl
        refine run_seq ?_
        refine run_region ?_
        refine k_val (ev_assign rfl) rfl ?_
        exact Run.mem (ret_spec Tryz.func80 rfl rfl rfl) (fun w hw => sat_mkSp (hlm.goes hm.1 hvm key) hw)
      · rw [if_neg h2]
        obtain ⟨R, hR⟩ := mem_split hmem
        have hone := hm.1.one (D.mem_keys hmem)
        have hcb := Sp.costs_bound (k := key) (e := d.ent key) hk1 hk2
        have hcb2 := Sp.costs_bound (k := key) (e := { d.ent key with at_ := at_ }) hk1 hk2
        refine run_ifF rfl (by first | assumption | omega) ?_
        refine run_skip ?_
        refine run_seq ?_
        refine run_seq ?_
        refine run_region ?_
        refine k_val (ev_move rfl) rfl ?_
        refine k_val (ev_move rfl) rfl ?_
        refine k_val (ev_nilCheck rfl) rfl ?_
        refine k_val (ev_fieldAddr0 4 rfl (by kernel_rfl)) rfl ?_
        refine k_val (ev_load rfl (by kernel_rfl)) rfl ?_
        refine k_val (ev_bF (ev_le rfl rfl) (by first | assumption | omega)) rfl ?_
        refine run_cond (t := false) rfl ?_
        refine run_skip ?_
        refine Run.exm (fun _ hw => sp_open (c := d) hR hw) ?_
        rintro vp -
        refine run_seq ?_
        refine run_tail 10 (by kernel_rfl) (by kernel_rfl) ?_
        refine q_val (ev_move rfl) rfl ?_
        refine q_val (ev_nilCheck rfl) rfl ?_
        refine q_val (ev_fieldAddr0 6 rfl (by kernel_rfl)) rfl ?_
        refine q_val (ev_load rfl (by kernel_rfl)) rfl ?_
        refine q_val (ev_move rfl) rfl ?_
        refine q_val (ev_move rfl) rfl ?_
        refine q_callE rfl rfl (by kernel_rfl) (costs_spec (vp := vp) (e := d.ent key) key hk1 hk2) ?_
        refine q_val (ev_subI rfl rfl (by omega)) rfl ?_
        refine q_val (ev_nilCheck rfl) rfl ?_
        refine q_val (ev_fieldAddr0 6 rfl (by kernel_rfl)) rfl ?_
        refine q_nil ?_
        refine k_store rfl rfl rfl rfl (by kernel_rfl) ?_
        refine run_seq ?_
        refine run_region ?_
        refine k_val (ev_move rfl) rfl ?_
        refine k_val (ev_move rfl) rfl ?_
        refine k_val (ev_nilCheck rfl) rfl ?_
        refine k_val (ev_fieldAddr0 3 rfl (by kernel_rfl)) rfl ?_
        refine k_store rfl rfl rfl rfl (by kernel_rfl) ?_
        refine run_seq ?_
        refine run_tail 10 (by kernel_rfl) (by kernel_rfl) ?_
        refine q_val (ev_move rfl) rfl ?_
        refine q_val (ev_nilCheck rfl) rfl ?_
        refine q_val (ev_fieldAddr0 6 rfl (by kernel_rfl)) rfl ?_
        refine q_val (ev_load rfl (by kernel_rfl)) rfl ?_
        refine q_val (ev_move rfl) rfl ?_
        refine q_val (ev_move rfl) rfl ?_
        refine q_callE rfl rfl (by kernel_rfl) (costs_spec (vp := vp) (e := { d.ent key with at_ := at_ }) key hk1 hk2) ?_
        refine q_val (ev_addI rfl rfl (by omega)) rfl ?_
        refine q_val (ev_nilCheck rfl) rfl ?_
        refine q_val (ev_fieldAddr0 6 rfl (by kernel_rfl)) rfl ?_
        refine q_nil ?_
        refine k_store rfl rfl rfl rfl (by kernel_rfl) ?_
        refine run_seq ?_
        refine run_region ?_
        refine k_val (ev_move rfl) rfl ?_
        refine k_val (ev_nilCheck rfl) rfl ?_
        refine k_val (ev_fieldAddr0 8 rfl (by kernel_rfl)) rfl ?_
        refine k_val (ev_load rfl (by kernel_rfl)) rfl ?_
        refine k_val (ev_move rfl) rfl ?_
        refine k_val (ev_move rfl) rfl ?_
        refine k_call rfl rfl (by kernel_rfl) (setF_spec key p hm.1.wl (by omega) hld) ?_
        rintro _ _ ⟨-, rfl⟩
        refine run_seq ?_
        refine run_region ?_
        refine k_val (ev_move rfl) rfl ?_
        refine k_val (ev_move rfl) rfl ?_
        refine OpK.mem (L' := SpO b ({ (d.setEnt key { d.ent key with at_ := at_ }) with used := d.used - Sp.costs key (d.ent key) + Sp.costs key { d.ent key with at_ := at_ }, late := d.late.set key (fun _ => p) p } : Sp Nat) bm bl mp sv' F) ?_ ?_
        · intro w hw
          refine sp_shut' (c := { d with used := d.used - Sp.costs key (d.ent key) + Sp.costs key { d.ent key with at_ := at_ }, late := d.late.set key (fun _ => p) p }) (vp := vp) hR hm.1.wm.uniq (e := { d.ent key with at_ := at_ }) ?_
          revert w; exact fun _ hw => sat_pick [1, 1, 1, 1, 0, 0, 0] 0 hw
        refine k_call rfl rfl (by kernel_rfl) (touch_spec (c := ({ (d.setEnt key { d.ent key with at_ := at_ }) with used := d.used - Sp.costs key (d.ent key) + Sp.costs key { d.ent key with at_ := at_ }, late := d.late.set key (fun _ => p) p } : Sp Nat)) key) ?_
        rintro _ _ rfl
        refine run_seq ?_
        refine run_region ?_
        refine k_val (ev_assign rfl) rfl ?_
        exact Run.mem (L' := SpA b ((d.dated key at_ p).map nil1) :: F) (ret_spec Tryz.func80 rfl rfl rfl) (fun w hw => sat_mkSp (bm := bm) (bl := bl) (mp := mp) (sv := sv') (hlm.dated hm.1 hvm at_ hmem) hw)

theorem newS_spec (q : Cfg) : Spec Tryz.prog G 8 [.agg #[.int .u64 q.seed, .int .i64 q.most, .int .i64 q.policy, .int .i64 q.samples]] L fun v L' =>
    (q.most < 0 ∨ q.policy < 0 ∨ 2 < q.policy ∨ q.samples < 0 ∨ 16 < q.samples ∨ (q.samples = 0 ∧ q.policy ≠ 0)) ∧ v = .tuple #[.pointer none, .int .i64 3] ∧ (∃ X, L' = X ++ L) ∨
    ¬ (q.most < 0 ∨ q.policy < 0 ∨ 2 < q.policy ∨ q.samples < 0 ∨ 16 < q.samples ∨ (q.samples = 0 ∧ q.policy ≠ 0)) ∧ ∃ b, v = .tuple #[ptrV b, .int .i64 0] ∧ L' = SpA b (Sp.mk0 q) :: L := by
  refine spec_of_run Tryz.func8 rfl rfl ?_
  refine run_seq ?_
  refine run_region ?_
  refine k_boxAgg rfl rfl ?_
  intro nb1
  refine k_val (ev_assign rfl) rfl ?_
  refine k_val (ev_assign rfl) rfl ?_
  refine run_seq ?_
  refine run_cut (κ := Unit) (fun _ => ¬ (q.most < 0 ∨ q.policy < 0 ∨ 2 < q.policy ∨ q.samples < 0 ∨ 16 < q.samples ∨ (q.samples = 0 ∧ q.policy ≠ 0))) (fun _ => [(1, ptrV nb1)]) (fun _ => Blk nb1 (.cells #[.int .u64 q.seed, .int .i64 q.most, .int .i64 q.policy, .int .i64 q.samples] 24 (0, 0)) :: L) ?_ ?_
  · intro _ hgood
    refine run_seq ?_
    refine run_lazyS (by kernel_rfl) ?_
    refine m_val 0 rfl (by kernel_rfl) (by kernel_rfl) (by kernel_rfl) (ev_loadAllS 4 rfl rfl (by kernel_rfl)) rfl ?_
    refine m_val 1 rfl (by kernel_rfl) (by kernel_rfl) (by kernel_rfl) (ev_fieldAddr0 0 rfl (by kernel_rfl)) rfl ?_
    refine m_val 2 rfl (by kernel_rfl) (by kernel_rfl) (by kernel_rfl) (ev_load rfl (by kernel_rfl)) rfl ?_
    refine m_val 4 rfl (by kernel_rfl) (by kernel_rfl) (by kernel_rfl) (ev_fieldAddr0 0 rfl (by kernel_rfl)) rfl ?_
    refine m_val 5 rfl (by kernel_rfl) (by kernel_rfl) (by kernel_rfl) (ev_load rfl (by kernel_rfl)) rfl ?_
    refine m_val 6 rfl (by kernel_rfl) (by kernel_rfl) (by kernel_rfl) (ev_add rfl rfl) rfl ?_
    refine m_loud2 3 8 (by kernel_rfl) rfl rfl (.inr fun _ hw => sat_pick [0] 0 hw) ?_ ?_
    · refine k_call rfl rfl (by kernel_rfl) (newA_spec q.seed) ?_
      rintro _ _ ⟨b1, rfl, rfl⟩
      refine m_loud2 7 8 (by kernel_rfl) rfl rfl (.inr fun _ hw => sat_pick [1] 1 hw) ?_ ?_
      · refine k_call rfl rfl (by kernel_rfl) (newA_spec (IntKind.u64.wrap (q.seed + 1))) ?_
        rintro _ _ ⟨b2, rfl, rfl⟩
        refine m_loud1 8 (by kernel_rfl) rfl (.inr fun _ hw => sat_pick [2] 2 hw) ?_
        refine k_makeSet rfl ?_
        intro nb2
        refine m_val 9 rfl (by kernel_rfl) (by kernel_rfl) (by kernel_rfl) (ev_buildP (z := [.int .u64 0, .int .i64 0, .int .i64 0, .int .i64 0, .int .i64 0, .int .u64 0, .int .i64 0, .pointer none, .pointer none, .map none, .slice none 0 0]) [(0, 4), (4, 1), (5, 1), (6, 1), (7, 1), (8, 1), (9, 1), (10, 1)] [0, 4, 5, 6] (by kernel_rfl) (by kernel_rfl) rfl rfl) rfl ?_
        refine m_loud1 10 (by kernel_rfl) rfl (.inr fun _ hw => sat_pick [3] 3 hw) ?_
        refine k_boxAgg rfl rfl ?_
        intro nb3
        refine m_val 11 rfl (by kernel_rfl) (by kernel_rfl) (by kernel_rfl) (ev_assign rfl) rfl ?_
        refine m_val 12 rfl (by kernel_rfl) (by kernel_rfl) (by kernel_rfl) (ev_assign rfl) rfl ?_
        refine m_end (by kernel_rfl) (.inr fun _ hw => sat_pick [4] 4 hw) ?_
        refine Run.mem (L' := SpA nb3 (Sp.mk0 q) :: L) ?_ (fun w hw => sat_mkSp (c := Sp.mk0 q) (bm := b1) (bl := b2) (mp := nb2) (sv := .slice none 0 0) (Sp.link_mk0 q) ?_)
        · exact ret_spec Tryz.func8 rfl rfl (.inr ⟨hgood, _, rfl, rfl⟩)
        have h1 := sat_ownNil (e := 49) (sz := 2) hw
        clear hw
        revert h1
        revert w
        exact fun _ hw => sat_pick [1, 3, 2, 1, 0] 1 hw
      · refine k_makeSet rfl ?_
        intro nb2
        refine m_loud1 7 (by kernel_rfl) rfl (.inr fun _ hw => sat_pick [2] 2 hw) ?_
        refine k_call rfl rfl (by kernel_rfl) (newA_spec (IntKind.u64.wrap (q.seed + 1))) ?_
        rintro _ _ ⟨b2, rfl, rfl⟩
        refine m_val 9 rfl (by kernel_rfl) (by kernel_rfl) (by kernel_rfl) (ev_buildP (z := [.int .u64 0, .int .i64 0, .int .i64 0, .int .i64 0, .int .i64 0, .int .u64 0, .int .i64 0, .pointer none, .pointer none, .map none, .slice none 0 0]) [(0, 4), (4, 1), (5, 1), (6, 1), (7, 1), (8, 1), (9, 1), (10, 1)] [0, 4, 5, 6] (by kernel_rfl) (by kernel_rfl) rfl rfl) rfl ?_
        refine m_loud1 10 (by kernel_rfl) rfl (.inr fun _ hw => sat_pick [3] 3 hw) ?_
        refine k_boxAgg rfl rfl ?_
        intro nb3
        refine m_val 11 rfl (by kernel_rfl) (by kernel_rfl) (by kernel_rfl) (ev_assign rfl) rfl ?_
        refine m_val 12 rfl (by kernel_rfl) (by kernel_rfl) (by kernel_rfl) (ev_assign rfl) rfl ?_
        refine m_end (by kernel_rfl) (.inr fun _ hw => sat_pick [4] 4 hw) ?_
        refine Run.mem (L' := SpA nb3 (Sp.mk0 q) :: L) ?_ (fun w hw => sat_mkSp (c := Sp.mk0 q) (bm := b1) (bl := b2) (mp := nb2) (sv := .slice none 0 0) (Sp.link_mk0 q) ?_)
        · exact ret_spec Tryz.func8 rfl rfl (.inr ⟨hgood, _, rfl, rfl⟩)
        have h1 := sat_ownNil (e := 49) (sz := 2) hw
        clear hw
        revert h1
        revert w
        exact fun _ hw => sat_pick [1, 3, 1, 1, 0] 1 hw
    · refine k_makeSet rfl ?_
      intro nb2
      refine m_loud1 3 (by kernel_rfl) rfl (.inr fun _ hw => sat_pick [1] 1 hw) ?_
      refine k_call rfl rfl (by kernel_rfl) (newA_spec q.seed) ?_
      rintro _ _ ⟨b1, rfl, rfl⟩
      refine m_loud1 7 (by kernel_rfl) rfl (.inr fun _ hw => sat_pick [2] 2 hw) ?_
      refine k_call rfl rfl (by kernel_rfl) (newA_spec (IntKind.u64.wrap (q.seed + 1))) ?_
      rintro _ _ ⟨b2, rfl, rfl⟩
      refine m_val 9 rfl (by kernel_rfl) (by kernel_rfl) (by kernel_rfl) (ev_buildP (z := [.int .u64 0, .int .i64 0, .int .i64 0, .int .i64 0, .int .i64 0, .int .u64 0, .int .i64 0, .pointer none, .pointer none, .map none, .slice none 0 0]) [(0, 4), (4, 1), (5, 1), (6, 1), (7, 1), (8, 1), (9, 1), (10, 1)] [0, 4, 5, 6] (by kernel_rfl) (by kernel_rfl) rfl rfl) rfl ?_
      refine m_loud1 10 (by kernel_rfl) rfl (.inr fun _ hw => sat_pick [3] 3 hw) ?_
      refine k_boxAgg rfl rfl ?_
      intro nb3
      refine m_val 11 rfl (by kernel_rfl) (by kernel_rfl) (by kernel_rfl) (ev_assign rfl) rfl ?_
      refine m_val 12 rfl (by kernel_rfl) (by kernel_rfl) (by kernel_rfl) (ev_assign rfl) rfl ?_
      refine m_end (by kernel_rfl) (.inr fun _ hw => sat_pick [4] 4 hw) ?_
      refine Run.mem (L' := SpA nb3 (Sp.mk0 q) :: L) ?_ (fun w hw => sat_mkSp (c := Sp.mk0 q) (bm := b1) (bl := b2) (mp := nb2) (sv := .slice none 0 0) (Sp.link_mk0 q) ?_)
      · exact ret_spec Tryz.func8 rfl rfl (.inr ⟨hgood, _, rfl, rfl⟩)
      have h1 := sat_ownNil (e := 49) (sz := 2) hw
      clear hw
      revert h1
      revert w
      exact fun _ hw => sat_pick [1, 2, 1, 1, 0] 1 hw
  intro out
  by_cases h1 : q.most < 0
  · refine run_block ?_
    refine run_seq ?_
    refine run_seq ?_
    refine run_region ?_
    refine k_val (ev_fieldAddr0 1 rfl (by kernel_rfl)) rfl ?_
    refine k_val (ev_load rfl (by kernel_rfl)) rfl ?_
    refine k_val (ev_bT (ev_lt rfl rfl) (by first | assumption | omega)) rfl ?_
    refine k_val (ev_assign rfl) rfl ?_
    refine run_cond (t := true) rfl ?_
    refine run_skip ?_
    refine run_cond (t := true) rfl ?_
    refine run_seq ?_
    refine run_region ?_
    refine k_val (ev_assign rfl) rfl ?_
    refine k_val (ev_assign rfl) rfl ?_
    exact ret_spec Tryz.func8 rfl rfl (.inl ⟨.inl h1, rfl, [_], rfl⟩)
  by_cases h2 : q.policy < 0
  · refine run_block ?_
    refine run_seq ?_
    refine run_seq ?_
    refine run_region ?_
    refine k_val (ev_fieldAddr0 1 rfl (by kernel_rfl)) rfl ?_
    refine k_val (ev_load rfl (by kernel_rfl)) rfl ?_
    refine k_val (ev_bF (ev_lt rfl rfl) (by first | assumption | omega)) rfl ?_
    refine k_val (ev_assign rfl) rfl ?_
    refine run_cond (t := false) rfl ?_
    refine run_seq ?_
    refine run_region ?_
    refine k_val (ev_fieldAddr0 2 rfl (by kernel_rfl)) rfl ?_
    refine k_val (ev_load rfl (by kernel_rfl)) rfl ?_
    refine k_val (ev_bT (ev_lt rfl rfl) (by first | assumption | omega)) rfl ?_
    refine k_val (ev_assign rfl) rfl ?_
    refine run_cond (t := true) rfl ?_
    refine run_skip ?_
    refine run_cond (t := true) rfl ?_
    refine run_seq ?_
    refine run_region ?_
    refine k_val (ev_assign rfl) rfl ?_
    refine k_val (ev_assign rfl) rfl ?_
    exact ret_spec Tryz.func8 rfl rfl (.inl ⟨.inr (.inl h2), rfl, [_], rfl⟩)
  by_cases h3 : 2 < q.policy
  · refine run_block ?_
    refine run_seq ?_
    refine run_seq ?_
    refine run_region ?_
    refine k_val (ev_fieldAddr0 1 rfl (by kernel_rfl)) rfl ?_
    refine k_val (ev_load rfl (by kernel_rfl)) rfl ?_
    refine k_val (ev_bF (ev_lt rfl rfl) (by first | assumption | omega)) rfl ?_
    refine k_val (ev_assign rfl) rfl ?_
    refine run_cond (t := false) rfl ?_
    refine run_seq ?_
    refine run_region ?_
    refine k_val (ev_fieldAddr0 2 rfl (by kernel_rfl)) rfl ?_
    refine k_val (ev_load rfl (by kernel_rfl)) rfl ?_
    refine k_val (ev_bF (ev_lt rfl rfl) (by first | assumption | omega)) rfl ?_
    refine k_val (ev_assign rfl) rfl ?_
    refine run_cond (t := false) rfl ?_
    refine run_seq ?_
    refine run_region ?_
    refine k_val (ev_fieldAddr0 2 rfl (by kernel_rfl)) rfl ?_
    refine k_val (ev_load rfl (by kernel_rfl)) rfl ?_
    refine k_val (ev_bT (ev_gt rfl rfl) (by first | assumption | omega)) rfl ?_
    refine k_val (ev_assign rfl) rfl ?_
    refine run_cond (t := true) rfl ?_
    refine run_skip ?_
    refine run_cond (t := true) rfl ?_
    refine run_seq ?_
    refine run_region ?_
    refine k_val (ev_assign rfl) rfl ?_
    refine k_val (ev_assign rfl) rfl ?_
    exact ret_spec Tryz.func8 rfl rfl (.inl ⟨.inr (.inr (.inl h3)), rfl, [_], rfl⟩)
  by_cases h4 : q.samples < 0
  · refine run_block ?_
    refine run_seq ?_
    refine run_seq ?_
    refine run_region ?_
    refine k_val (ev_fieldAddr0 1 rfl (by kernel_rfl)) rfl ?_
    refine k_val (ev_load rfl (by kernel_rfl)) rfl ?_
    refine k_val (ev_bF (ev_lt rfl rfl) (by first | assumption | omega)) rfl ?_
    refine k_val (ev_assign rfl) rfl ?_
    refine run_cond (t := false) rfl ?_
    refine run_seq ?_
    refine run_region ?_
    refine k_val (ev_fieldAddr0 2 rfl (by kernel_rfl)) rfl ?_
    refine k_val (ev_load rfl (by kernel_rfl)) rfl ?_
    refine k_val (ev_bF (ev_lt rfl rfl) (by first | assumption | omega)) rfl ?_
    refine k_val (ev_assign rfl) rfl ?_
    refine run_cond (t := false) rfl ?_
    refine run_seq ?_
    refine run_region ?_
    refine k_val (ev_fieldAddr0 2 rfl (by kernel_rfl)) rfl ?_
    refine k_val (ev_load rfl (by kernel_rfl)) rfl ?_
    refine k_val (ev_bF (ev_gt rfl rfl) (by first | assumption | omega)) rfl ?_
    refine k_val (ev_assign rfl) rfl ?_
    refine run_cond (t := false) rfl ?_
    refine run_seq ?_
    refine run_region ?_
    refine k_val (ev_fieldAddr0 3 rfl (by kernel_rfl)) rfl ?_
    refine k_val (ev_load rfl (by kernel_rfl)) rfl ?_
    refine k_val (ev_bT (ev_lt rfl rfl) (by first | assumption | omega)) rfl ?_
    refine k_val (ev_assign rfl) rfl ?_
    refine run_cond (t := true) rfl ?_
    refine run_skip ?_
    refine run_cond (t := true) rfl ?_
    refine run_seq ?_
    refine run_region ?_
    refine k_val (ev_assign rfl) rfl ?_
    refine k_val (ev_assign rfl) rfl ?_
    exact ret_spec Tryz.func8 rfl rfl (.inl ⟨.inr (.inr (.inr (.inl h4))), rfl, [_], rfl⟩)
  by_cases h5 : 16 < q.samples
  · refine run_block ?_
    refine run_seq ?_
    refine run_seq ?_
    refine run_region ?_
    refine k_val (ev_fieldAddr0 1 rfl (by kernel_rfl)) rfl ?_
    refine k_val (ev_load rfl (by kernel_rfl)) rfl ?_
    refine k_val (ev_bF (ev_lt rfl rfl) (by first | assumption | omega)) rfl ?_
    refine k_val (ev_assign rfl) rfl ?_
    refine run_cond (t := false) rfl ?_
    refine run_seq ?_
    refine run_region ?_
    refine k_val (ev_fieldAddr0 2 rfl (by kernel_rfl)) rfl ?_
    refine k_val (ev_load rfl (by kernel_rfl)) rfl ?_
    refine k_val (ev_bF (ev_lt rfl rfl) (by first | assumption | omega)) rfl ?_
    refine k_val (ev_assign rfl) rfl ?_
    refine run_cond (t := false) rfl ?_
    refine run_seq ?_
    refine run_region ?_
    refine k_val (ev_fieldAddr0 2 rfl (by kernel_rfl)) rfl ?_
    refine k_val (ev_load rfl (by kernel_rfl)) rfl ?_
    refine k_val (ev_bF (ev_gt rfl rfl) (by first | assumption | omega)) rfl ?_
    refine k_val (ev_assign rfl) rfl ?_
    refine run_cond (t := false) rfl ?_
    refine run_seq ?_
    refine run_region ?_
    refine k_val (ev_fieldAddr0 3 rfl (by kernel_rfl)) rfl ?_
    refine k_val (ev_load rfl (by kernel_rfl)) rfl ?_
    refine k_val (ev_bF (ev_lt rfl rfl) (by first | assumption | omega)) rfl ?_
    refine k_val (ev_assign rfl) rfl ?_
    refine run_cond (t := false) rfl ?_
    refine run_seq ?_
    refine run_region ?_
    refine k_val (ev_fieldAddr0 3 rfl (by kernel_rfl)) rfl ?_
    refine k_val (ev_load rfl (by kernel_rfl)) rfl ?_
    refine k_val (ev_bT (ev_gt rfl rfl) (by first | assumption | omega)) rfl ?_
    refine k_val (ev_assign rfl) rfl ?_
    refine run_cond (t := true) rfl ?_
    refine run_skip ?_
    refine run_cond (t := true) rfl ?_
    refine run_seq ?_
    refine run_region ?_
    refine k_val (ev_assign rfl) rfl ?_
    refine k_val (ev_assign rfl) rfl ?_
    exact ret_spec Tryz.func8 rfl rfl (.inl ⟨.inr (.inr (.inr (.inr (.inl h5)))), rfl, [_], rfl⟩)
  by_cases h6 : q.samples = 0
  · by_cases h7 : q.policy = 0
    · refine run_block ?_
      refine run_seq ?_
      refine run_seq ?_
      refine run_region ?_
      refine k_val (ev_fieldAddr0 1 rfl (by kernel_rfl)) rfl ?_
      refine k_val (ev_load rfl (by kernel_rfl)) rfl ?_
      refine k_val (ev_bF (ev_lt rfl rfl) (by first | assumption | omega)) rfl ?_
      refine k_val (ev_assign rfl) rfl ?_
      refine run_cond (t := false) rfl ?_
      refine run_seq ?_
      refine run_region ?_
      refine k_val (ev_fieldAddr0 2 rfl (by kernel_rfl)) rfl ?_
      refine k_val (ev_load rfl (by kernel_rfl)) rfl ?_
      refine k_val (ev_bF (ev_lt rfl rfl) (by first | assumption | omega)) rfl ?_
      refine k_val (ev_assign rfl) rfl ?_
      refine run_cond (t := false) rfl ?_
      refine run_seq ?_
      refine run_region ?_
      refine k_val (ev_fieldAddr0 2 rfl (by kernel_rfl)) rfl ?_
      refine k_val (ev_load rfl (by kernel_rfl)) rfl ?_
      refine k_val (ev_bF (ev_gt rfl rfl) (by first | assumption | omega)) rfl ?_
      refine k_val (ev_assign rfl) rfl ?_
      refine run_cond (t := false) rfl ?_
      refine run_seq ?_
      refine run_region ?_
      refine k_val (ev_fieldAddr0 3 rfl (by kernel_rfl)) rfl ?_
      refine k_val (ev_load rfl (by kernel_rfl)) rfl ?_
      refine k_val (ev_bF (ev_lt rfl rfl) (by first | assumption | omega)) rfl ?_
      refine k_val (ev_assign rfl) rfl ?_
      refine run_cond (t := false) rfl ?_
      refine run_seq ?_
      refine run_region ?_
      refine k_val (ev_fieldAddr0 3 rfl (by kernel_rfl)) rfl ?_
      refine k_val (ev_load rfl (by kernel_rfl)) rfl ?_
      refine k_val (ev_bF (ev_gt rfl rfl) (by first | assumption | omega)) rfl ?_
      refine k_val (ev_assign rfl) rfl ?_
      refine run_cond (t := false) rfl ?_
      refine run_region ?_
      refine k_val (ev_fieldAddr0 3 rfl (by kernel_rfl)) rfl ?_
      refine k_val (ev_load rfl (by kernel_rfl)) rfl ?_
      refine k_val (ev_bT (ev_eqI rfl rfl) (by first | assumption | omega)) rfl ?_
      refine k_val (ev_move rfl) rfl ?_
      refine k_guard rfl rfl rfl ?_
      refine k_val (ev_fieldAddr0 2 rfl (by kernel_rfl)) rfl ?_
      refine k_guard rfl rfl rfl ?_
      refine k_val (ev_load rfl (by kernel_rfl)) rfl ?_
      refine k_guard rfl rfl rfl ?_
      refine k_val (ev_bF (ev_neI rfl rfl) (by first | assumption | omega)) rfl ?_
      refine k_val (ev_pickT rfl rfl) rfl ?_
      refine k_val (ev_assign rfl) rfl ?_
      refine run_cond (t := false) rfl ?_
      refine run_skip ?_
      refine run_inBlock ?_
      exact out () _ (by omega) ⟨rfl, trivial⟩
    · refine run_block ?_
      refine run_seq ?_
      refine run_seq ?_
      refine run_region ?_
      refine k_val (ev_fieldAddr0 1 rfl (by kernel_rfl)) rfl ?_
      refine k_val (ev_load rfl (by kernel_rfl)) rfl ?_
      refine k_val (ev_bF (ev_lt rfl rfl) (by first | assumption | omega)) rfl ?_
      refine k_val (ev_assign rfl) rfl ?_
      refine run_cond (t := false) rfl ?_
      refine run_seq ?_
      refine run_region ?_
      refine k_val (ev_fieldAddr0 2 rfl (by kernel_rfl)) rfl ?_
      refine k_val (ev_load rfl (by kernel_rfl)) rfl ?_
      refine k_val (ev_bF (ev_lt rfl rfl) (by first | assumption | omega)) rfl ?_
      refine k_val (ev_assign rfl) rfl ?_
      refine run_cond (t := false) rfl ?_
      refine run_seq ?_
      refine run_region ?_
      refine k_val (ev_fieldAddr0 2 rfl (by kernel_rfl)) rfl ?_
      refine k_val (ev_load rfl (by kernel_rfl)) rfl ?_
      refine k_val (ev_bF (ev_gt rfl rfl) (by first | assumption | omega)) rfl ?_
      refine k_val (ev_assign rfl) rfl ?_
      refine run_cond (t := false) rfl ?_
      refine run_seq ?_
      refine run_region ?_
      refine k_val (ev_fieldAddr0 3 rfl (by kernel_rfl)) rfl ?_
      refine k_val (ev_load rfl (by kernel_rfl)) rfl ?_
      refine k_val (ev_bF (ev_lt rfl rfl) (by first | assumption | omega)) rfl ?_
      refine k_val (ev_assign rfl) rfl ?_
      refine run_cond (t := false) rfl ?_
      refine run_seq ?_
      refine run_region ?_
      refine k_val (ev_fieldAddr0 3 rfl (by kernel_rfl)) rfl ?_
      refine k_val (ev_load rfl (by kernel_rfl)) rfl ?_
      refine k_val (ev_bF (ev_gt rfl rfl) (by first | assumption | omega)) rfl ?_
      refine k_val (ev_assign rfl) rfl ?_
      refine run_cond (t := false) rfl ?_
      refine run_region ?_
      refine k_val (ev_fieldAddr0 3 rfl (by kernel_rfl)) rfl ?_
      refine k_val (ev_load rfl (by kernel_rfl)) rfl ?_
      refine k_val (ev_bT (ev_eqI rfl rfl) (by first | assumption | omega)) rfl ?_
      refine k_val (ev_move rfl) rfl ?_
      refine k_guard rfl rfl rfl ?_
      refine k_val (ev_fieldAddr0 2 rfl (by kernel_rfl)) rfl ?_
      refine k_guard rfl rfl rfl ?_
      refine k_val (ev_load rfl (by kernel_rfl)) rfl ?_
      refine k_guard rfl rfl rfl ?_
      refine k_val (ev_bT (ev_neI rfl rfl) (by first | assumption | omega)) rfl ?_
      refine k_val (ev_pickT rfl rfl) rfl ?_
      refine k_val (ev_assign rfl) rfl ?_
      refine run_cond (t := true) rfl ?_
      refine run_seq ?_
      refine run_region ?_
      refine k_val (ev_assign rfl) rfl ?_
      refine k_val (ev_assign rfl) rfl ?_
      exact ret_spec Tryz.func8 rfl rfl (.inl ⟨.inr (.inr (.inr (.inr (.inr ⟨h6, h7⟩)))), rfl, [_], rfl⟩)
  · refine run_block ?_
    refine run_seq ?_
    refine run_seq ?_
    refine run_region ?_
    refine k_val (ev_fieldAddr0 1 rfl (by kernel_rfl)) rfl ?_
    refine k_val (ev_load rfl (by kernel_rfl)) rfl ?_
    refine k_val (ev_bF (ev_lt rfl rfl) (by first | assumption | omega)) rfl ?_
    refine k_val (ev_assign rfl) rfl ?_
    refine run_cond (t := false) rfl ?_
    refine run_seq ?_
    refine run_region ?_
    refine k_val (ev_fieldAddr0 2 rfl (by kernel_rfl)) rfl ?_
    refine k_val (ev_load rfl (by kernel_rfl)) rfl ?_
    refine k_val (ev_bF (ev_lt rfl rfl) (by first | assumption | omega)) rfl ?_
    refine k_val (ev_assign rfl) rfl ?_
    refine run_cond (t := false) rfl ?_
    refine run_seq ?_
    refine run_region ?_
    refine k_val (ev_fieldAddr0 2 rfl (by kernel_rfl)) rfl ?_
    refine k_val (ev_load rfl (by kernel_rfl)) rfl ?_
    refine k_val (ev_bF (ev_gt rfl rfl) (by first | assumption | omega)) rfl ?_
    refine k_val (ev_assign rfl) rfl ?_
    refine run_cond (t := false) rfl ?_
    refine run_seq ?_
    refine run_region ?_
    refine k_val (ev_fieldAddr0 3 rfl (by kernel_rfl)) rfl ?_
    refine k_val (ev_load rfl (by kernel_rfl)) rfl ?_
    refine k_val (ev_bF (ev_lt rfl rfl) (by first | assumption | omega)) rfl ?_
    refine k_val (ev_assign rfl) rfl ?_
    refine run_cond (t := false) rfl ?_
    refine run_seq ?_
    refine run_region ?_
    refine k_val (ev_fieldAddr0 3 rfl (by kernel_rfl)) rfl ?_
    refine k_val (ev_load rfl (by kernel_rfl)) rfl ?_
    refine k_val (ev_bF (ev_gt rfl rfl) (by first | assumption | omega)) rfl ?_
    refine k_val (ev_assign rfl) rfl ?_
    refine run_cond (t := false) rfl ?_
    refine run_region ?_
    refine k_val (ev_fieldAddr0 3 rfl (by kernel_rfl)) rfl ?_
    refine k_val (ev_load rfl (by kernel_rfl)) rfl ?_
    refine k_val (ev_bF (ev_eqI rfl rfl) (by first | assumption | omega)) rfl ?_
    refine k_val (ev_move rfl) rfl ?_
    refine k_skip rfl rfl rfl rfl ?_
    refine k_skip rfl rfl rfl rfl ?_
    refine k_skip rfl rfl rfl rfl ?_
    refine k_val (ev_pickF rfl rfl) rfl ?_
    refine k_val (ev_assign rfl) rfl ?_
    refine run_cond (t := false) rfl ?_
    refine run_skip ?_
    refine run_inBlock ?_
    exact out () _ (by omega) ⟨rfl, trivial⟩
end
end Go.PS
