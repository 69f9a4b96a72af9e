/-
  The keyspace's Sweep, walked.
  Conditions: each contract's own.
-/
import Derived.Test.YtopkabhgkhjecaaGreatEachA
namespace Go.PS
open Go Go.Proofs Go.Shelf
set_option maxRecDepth 10000

namespace Sp
variable {α : Type}
/-- The keys whose deadline has come, the soonest first. -/
def dues (s : Sp α) : List ByteArray := (s.late.keys.filter fun k => s.past (s.ent k).at_).mergeSort fun x y => !lt2 ((s.ent y).at_, y) ((s.ent x).at_, x)
noncomputable def sweep (s : Sp α) (most : Int) : Sp α := if most ≤ 0 then s else (s.dues.take most.toNat).foldl expires s
end Sp

abbrev dueV (x : ByteArray × Nat) : List Value := [.string x.1, ptrV x.2]
section
variable {G : World} {L F : List HP} {b bm bl mp : Nat} {c : Sp Nat} {sv : Value} {s : Sp Unit}

theorem sat_openE {w : World} (pre : List HP) {l R : List (ByteArray × Nat)} {ent : ByteArray → PE} {key : ByteArray} {p : Nat} (hp : l.Perm ((key, p) :: R)) (hw : Sat G w (pre ++ (entsL l ent ++ F))) :
    ∃ vp, True ∧ Sat G w (Blk p (.cells (entCells vp (ent key)) tyEnt (0, 0)) :: Blk vp (.cells #[.iface tyText (.string (ent key).text)] tyVal (0, 0)) :: (pre ++ (entsL R ent ++ F))) :=
  sat_ent (hw.perm (((ents_open hp).append_left pre).trans List.perm_middle))
theorem sat_shutE {w : World} (pre : List HP) {l R : List (ByteArray × Nat)} {ent : ByteArray → PE} {key : ByteArray} {p vp : Nat} (hp : l.Perm ((key, p) :: R))
    (hw : Sat G w (Blk p (.cells (entCells vp (ent key)) tyEnt (0, 0)) :: Blk vp (.cells #[.iface tyText (.string (ent key).text)] tyVal (0, 0)) :: (pre ++ (entsL R ent ++ F)))) : Sat G w (pre ++ (entsL l ent ++ F)) :=
  (sat_mkEnt hw).perm (((ents_open hp).append_left pre).trans List.perm_middle).symm
theorem sat_open8 {w : World} {A1 A2 A3 A4 A5 A6 A7 A8 : HP} {l R : List (ByteArray × Nat)} {ent : ByteArray → PE} {key : ByteArray} {p : Nat} (hp : l.Perm ((key, p) :: R)) (hw : Sat G w (A1 :: A2 :: A3 :: A4 :: A5 :: A6 :: A7 :: A8 :: (entsL l ent ++ F))) :
    ∃ vp, True ∧ Sat G w (Blk p (.cells (entCells vp (ent key)) tyEnt (0, 0)) :: Blk vp (.cells #[.iface tyText (.string (ent key).text)] tyVal (0, 0)) :: A1 :: A2 :: A3 :: A4 :: A5 :: A6 :: A7 :: A8 :: (entsL R ent ++ F)) := sat_openE [A1, A2, A3, A4, A5, A6, A7, A8] hp hw
theorem sat_shut8 {w : World} {A1 A2 A3 A4 A5 A6 A7 A8 : HP} {l R : List (ByteArray × Nat)} {ent : ByteArray → PE} {key : ByteArray} {p vp : Nat} (hp : l.Perm ((key, p) :: R))
    (hw : Sat G w (Blk p (.cells (entCells vp (ent key)) tyEnt (0, 0)) :: Blk vp (.cells #[.iface tyText (.string (ent key).text)] tyVal (0, 0)) :: A1 :: A2 :: A3 :: A4 :: A5 :: A6 :: A7 :: A8 :: (entsL R ent ++ F))) : Sat G w (A1 :: A2 :: A3 :: A4 :: A5 :: A6 :: A7 :: A8 :: (entsL l ent ++ F)) := sat_shutE [A1, A2, A3, A4, A5, A6, A7, A8] hp hw
/-- The order of the swept: deadline, then key. -/
theorem duecmp_spec {W : World} {x y : ByteArray × Nat} {vx vy : Nat} {ex ey : PE} {T1 T2 : Nat} (hx : W.heap[x.2]? = some (.cells (entCells vx ex) T1 (0, 0))) (hy : W.heap[y.2]? = some (.cells (entCells vy ey) T2 (0, 0))) :
    Spec Tryz.prog W 57 [.agg (dueV x).toArray, .agg (dueV y).toArray] [Old W] fun u L' => u = .int .i64 (orI (cmpI ex.at_ ey.at_) (cmpS x.1 y.1)) ∧ Old W ∈ L' := by
  refine spec_of_run Tryz.func57 rfl rfl ?_
  haveI h1 : Reads W [Old W] x.2 (entCells vx ex) := reads_old (by simp) hx
  haveI h2 : Reads W [Old W] y.2 (entCells vy ey) := reads_old (by simp) hy
  refine run_seq ?_
  refine run_region ?_
  refine k_boxAgg rfl rfl ?_
  intro nb1
  refine k_boxAgg rfl rfl ?_
  intro nb2
  refine k_val (ev_assign rfl) rfl ?_
  refine run_seq ?_
  refine run_tail 16 (by kernel_rfl) (by kernel_rfl) ?_
  refine q_val (ev_fieldAddr0 1 rfl (by kernel_rfl)) rfl ?_
  refine q_val (ev_load rfl (by kernel_rfl)) rfl ?_
  refine q_val (ev_nilCheck rfl) rfl ?_
  refine q_val (ev_fieldAddr0 3 rfl (by kernel_rfl)) rfl ?_
  refine q_val (ev_load rfl (by kernel_rfl)) rfl ?_
  refine q_val (ev_fieldAddr0 1 rfl (by kernel_rfl)) rfl ?_
  refine q_val (ev_load rfl (by kernel_rfl)) rfl ?_
  refine q_val (ev_nilCheck rfl) rfl ?_
  refine q_val (ev_fieldAddr0 3 rfl (by kernel_rfl)) rfl ?_
  refine q_val (ev_load rfl (by kernel_rfl)) rfl ?_
  refine q_callE rfl rfl (by kernel_rfl) (cmpInt_spec ex.at_ ey.at_) ?_
  refine q_val (ev_fieldAddr0 0 rfl (by kernel_rfl)) rfl ?_
  refine q_val (ev_load rfl (by kernel_rfl)) rfl ?_
  refine q_val (ev_fieldAddr0 0 rfl (by kernel_rfl)) rfl ?_
  refine q_val (ev_load rfl (by kernel_rfl)) rfl ?_
  refine q_callE rfl rfl (by kernel_rfl) (cmpStr_spec x.1 y.1) ?_
  refine q_nil ?_
  refine k_buildSliceN (e := 3) (B := 8) (z := [.int .i64 0]) (zs := [.int .i64 0, .int .i64 0]) [(0, 1), (1, 1)] [0, 1] rfl ⟨by kernel_rfl, by kernel_rfl, by kernel_rfl, by kernel_rfl⟩ rfl (by decide) (by decide) (by decide) (by decide) (by kernel_rfl) rfl ?_
  intro nb3
  refine k_call rfl rfl (by kernel_rfl) (or_spec _ _) ?_
  rintro _ _ ⟨rfl, rfl⟩
  refine k_val (ev_assign rfl) rfl ?_
  exact ret_spec Tryz.func57 rfl rfl ⟨rfl, by simp⟩

theorem ent_read {w : World} {p : Nat} {e : PE} (h : EntA p e ∈ L) (hw : Sat G w L) : ∃ vp, w.heap[p]? = some (.cells (entCells vp e) tyEnt (0, 0)) := by
  obtain ⟨M, hp⟩ := mem_front h
  obtain ⟨vp, _, h1⟩ := sat_ent (hw.perm hp)
  exact ⟨vp, h1.blk⟩
def dueLe (ent : ByteArray → PE) (x y : ByteArray × Nat) : Bool := !lt2 ((ent y.1).at_, y.1) ((ent x.1).at_, x.1)
theorem duesort_spec {items xs : List (ByteArray × Nat)} {ent : ByteArray → PE} {v : Value} (hu : (items.map (·.1)).Nodup) (hxs : ∀ x ∈ xs, x ∈ items) (hF : ∀ x ∈ items, EntA x.2 (ent x.1) ∈ F) (hsz : xs.length < 4611686018427387904) :
    Spec Tryz.prog G 56 [v, .func (.func 57) #[] #[]] (OwnSl 122 2 xs.length v (xs.flatMap dueV) :: F) fun _ L' => L' = OwnSl 122 2 xs.length v ((xs.mergeSort (dueLe ent)).flatMap dueV) :: F := by
  let α := { x : ByteArray × Nat // x ∈ items }
  let enc : α → List Value := fun x => dueV x.1
  let cf : α → α → Int := fun x y => orI (cmpI (ent x.1.1).at_ (ent y.1.1).at_) (cmpS x.1.1 y.1.1)
  have hlt : ∀ x y : α, ltOf cf x y = lt2 ((ent x.1.1).at_, x.1.1) ((ent y.1.1).at_, y.1.1) := fun x y => or_lt2 ((ent x.1.1).at_, x.1.1) ((ent y.1.1).at_, y.1.1)
  have hT : ∀ x y : α, ltOf cf x y = false → ltOf cf y x = false → x = y := by
    intro x y h1 h2
    rw [hlt] at h1 h2
    have hk : x.1.1 = y.1.1 := congrArg Prod.snd (lt2_tri h1 h2)
    refine Subtype.ext (Prod.ext hk ?_)
    obtain ⟨⟨kx, px⟩, hx⟩ := x
    obtain ⟨⟨ky, py⟩, hy⟩ := y
    simp only at hk ⊢
    subst hk
    exact D.nodup_val hu hx hy
  have hO : Go.Sort.SWO (ltOf cf) := tri_ntrans (fun x => by rw [hlt]; exact lt2_irrefl _) (fun x y z h1 h2 => by rw [hlt] at *; exact lt2_trans h1 h2) hT
  let xs' : List α := xs.attachWith (· ∈ items) hxs
  have hmap : xs'.map (·.1) = xs := by
    show (xs.attachWith (· ∈ items) hxs).map Subtype.val = xs
    exact List.attachWith_map_subtype_val ..
  have hfm : ∀ l : List α, l.flatMap enc = (l.map (·.1)).flatMap dueV := fun l => by rw [List.flatMap_map]
  have hlen : xs'.length = xs.length := by have := congrArg List.length hmap; rwa [List.length_map] at this
  have hms : (xs'.mergeSort fun x y => !(ltOf cf) y x).map (·.1) = xs.mergeSort (dueLe ent) := by
    rw [← hmap]
    refine List.map_mergeSort fun a _ b _ => ?_
    rw [hlt]; rfl
  have key := sortK_spec (P := Tryz.prog) (ρ := Tryz.sortDue_ren) (enc := enc) (k := 2) (e := 122) (v := v) (xs := xs') (F := F) (G := G) Tryz.sortDue (fun w => run_isAgg_agg (n := 2) (by kernel_rfl)) (fun w => run_sizeOf (by kernel_rfl)) (fun _ => rfl) ?_ cf hO hT 57 [] (by kernel_rfl) (by omega) ?_
  · rw [hfm, hfm, hmap, hms, hlen] at key
    exact key.mono fun _ _ h => h.2
  · rintro ⟨x, hx⟩ v hv
    simp only [enc, dueV, List.mem_cons, List.not_mem_nil, or_false] at hv
    rcases hv with rfl | rfl <;> rfl
  · rintro W b C hW ⟨x, hx⟩ ⟨y, hy⟩
    obtain ⟨vx, h1⟩ := ent_read (List.mem_cons_of_mem _ (hF x hx)) hW
    obtain ⟨vy, h2⟩ := ent_read (List.mem_cons_of_mem _ (hF y hy)) hW
    exact duecmp_spec h1 h2

theorem perm_tail8 {A1 A2 A3 A4 A5 A6 A7 A8 : HP} {E : List HP} (X M : List HP) : (A1 :: A2 :: A3 :: A4 :: A5 :: A6 :: A7 :: A8 :: (E ++ (X ++ M))).Perm (M ++ (A1 :: A2 :: A3 :: A4 :: A5 :: A6 :: A7 :: A8 :: (E ++ X))) := by
  rw [← List.append_assoc]
  exact List.perm_append_comm (l₁ := A1 :: A2 :: A3 :: A4 :: A5 :: A6 :: A7 :: A8 :: (E ++ X)) (l₂ := M)
theorem sp_pre (pre : List HP) : (pre ++ SpO b c bm bl mp sv F).Perm (SpO b c bm bl mp sv (pre ++ F)) := by
  induction pre with
  | nil => exact .refl _
  | cons X pre ih => exact (ih.cons X).trans sp_front.symm
theorem Sat.left {w : World} {M : List HP} (H : Sat G w (L ++ M)) : Sat G w L := H.append_comm.append_right
theorem reads_by {L' : List HP} {p : Nat} {C : Array Value} (h : Reads G L' p C) (hp : ∀ w, Sat G w L → Sat G w L') : Reads G L p C := ⟨fun w hw => h.read w (hp w hw)⟩

/-- What stays while the due are swept. -/
theorem sweep_inv {ys : List (ByteArray × Nat)} (ok : c.Ok) (hv : c.vol ≤ 1099511627776) (hl : c.Link) (hys : ∀ y ∈ ys, y ∈ c.main.items) (hnd : (ys.map (·.1)).Nodup) : ∀ i, i ≤ ys.length →
    ((ys.take i).foldl (fun s x => s.expires x.1) c).Ok ∧ ((ys.take i).foldl (fun s x => s.expires x.1) c).vol ≤ c.vol ∧ ((ys.take i).foldl (fun s x => s.expires x.1) c).Link ∧ ∀ y ∈ ys.drop i, y ∈ ((ys.take i).foldl (fun s x => s.expires x.1) c).main.items
  | 0, _ => ⟨ok, Nat.le_refl _, hl, by simpa using hys⟩
  | i + 1, hi => by
    obtain ⟨h1, h2, h3, h4⟩ := sweep_inv ok hv hl hys hnd i (by omega)
    have hlt : i < ys.length := by omega
    rw [List.take_succ_eq_append_getElem hlt, List.foldl_append, List.foldl_cons, List.foldl_nil]
    generalize (ys.take i).foldl (fun s x => s.expires x.1) c = d at *
    have hdrop : ys.drop i = ys[i] :: ys.drop (i + 1) := List.drop_eq_getElem_cons hlt
    have hm : ys[i] ∈ d.main.items := h4 _ (by rw [hdrop]; exact .head _)
    have hk : ys[i].1 ∈ d.main.keys := List.mem_map.2 ⟨_, hm, rfl⟩
    have he := h1.expires (by omega) hk
    refine ⟨he.1, by omega, h3.expires h1 (by omega) _, fun y hy => ?_⟩
    show y ∈ (d.main.delete ys[i].1).items
    rw [h1.wm.items_del (h1.bound (by omega)).1]
    refine ⟨h4 y (by rw [hdrop]; exact .tail _ hy), fun e => ?_⟩
    have h5 : (ys.map (·.1)).Nodup := hnd
    rw [← List.take_append_drop i ys, List.map_append, hdrop, List.map_cons] at h5
    have h6 := (List.nodup_append.1 h5).2.1
    rw [List.nodup_cons] at h6
    exact h6.1 (by rw [← e]; exact List.mem_map.2 ⟨y, hy, rfl⟩)
theorem map_sweeps {α β : Type} (f : α → β) : ∀ (l : List ByteArray) (c : Sp α), l.foldl Sp.expires (c.map f) = (l.foldl Sp.expires c).map f
  | [], _ => rfl
  | k :: l, c => by rw [List.foldl_cons, Sp.map_expires, map_sweeps f l, List.foldl_cons]

theorem sweepS_spec {most : Int} (ok : s.Ok) (hv : s.vol ≤ 1099511627776) : Spec Tryz.prog G 16 [ptrV b, .int .i64 most] (SpA b s :: F) fun _ L' => L' = SpA b (s.sweep most) :: F := by
  refine Spec.exm (fun _ hw => sat_sp hw) ?_
  rintro ⟨c, bm, bl, mp, sv⟩ ⟨hs, hl⟩
  simp only at hs hl ⊢
  replace ok := okc ok hs
  replace hv := volc hv hs
  obtain ⟨hn, hld, hu0, hu1⟩ := ok.bound hv
  refine spec_of_run Tryz.func16 rfl rfl ?_
  by_cases hm : most ≤ 0
  · refine run_seq ?_
    refine run_region ?_
    refine k_box rfl rfl rfl ?_
    intro nb1
    refine k_val (ev_assign rfl) rfl ?_
    refine run_seq ?_
    refine run_seq ?_
    refine run_region ?_
    refine k_val (ev_load rfl (by kernel_rfl)) rfl ?_
    refine k_val (ev_eqNil rfl rfl (by kernel_rfl)) rfl ?_
    refine k_val (ev_move rfl) rfl ?_
    refine k_guard rfl rfl rfl ?_
    refine k_val (ev_move rfl) rfl ?_
    refine k_guard rfl rfl rfl ?_
    refine k_val (ev_bT (ev_le rfl rfl) (by first | assumption | omega)) rfl ?_
    refine k_val (ev_pickF rfl rfl) rfl ?_
    refine run_cond (t := true) rfl ?_
    refine run_seq ?_
    refine run_region ?_
    refine k_val (ev_assign rfl) rfl ?_
    subst hs
    refine Run.mem (L' := SpA b (c.map nil1) :: F) (ret_spec Tryz.func16 rfl rfl ?_) (fun w hw => sat_mkSp hl hw.tail)
    unfold Sp.sweep; rw [if_pos hm]
  refine run_seq ?_
  refine run_region ?_
  refine k_box rfl rfl rfl ?_
  intro nb1
  refine k_val (ev_assign rfl) rfl ?_
  refine run_seq ?_
  refine run_seq ?_
  refine run_region ?_
  refine k_val (ev_load rfl (by kernel_rfl)) rfl ?_
  refine k_val (ev_eqNil rfl rfl (by kernel_rfl)) rfl ?_
  refine k_val (ev_move rfl) rfl ?_
  refine k_guard rfl rfl rfl ?_
  refine k_val (ev_move rfl) rfl ?_
  refine k_guard rfl rfl rfl ?_
  refine k_val (ev_bF (ev_le rfl rfl) (by first | assumption | omega)) rfl ?_
  refine k_val (ev_pickF rfl rfl) rfl ?_
  refine run_cond (t := false) rfl ?_
  refine run_skip ?_
  refine run_seq ?_
  refine run_region ?_
  refine k_alloc (#[.slice none 0 0]) (by kernel_rfl) rfl ?_
  intro nb2
  refine run_seq ?_
  refine run_seq ?_
  refine run_region ?_
  refine k_val (ev_load rfl (by kernel_rfl)) rfl ?_
  refine k_val (ev_nilCheck rfl) rfl ?_
  refine k_val (ev_fieldAddr0 8 rfl (by kernel_rfl)) rfl ?_
  refine k_val (ev_load rfl (by kernel_rfl)) rfl ?_
  refine k_call rfl rfl (by kernel_rfl) (each_spec (some ⟨bl, 0, none⟩)) ?_
  rintro _ _ ⟨bx, rfl, rfl⟩
  skip
  refine run_block ?_
  let due (x : ByteArray × Nat) : Bool := c.past (c.ent x.1).at_
  refine run_eachA (bl := bl) (bx := bx) (d := c.late) (κ := Value)
    (fun i v Y => Blk nb2 (.cells #[v] 114 (0, 0)) :: OwnSl 122 2 ((c.late.items.take i).filter due).length v (((c.late.items.take i).filter due).flatMap dueV) ::
      Blk nb1 (.cells #[ptrV b] 26 (0, 0)) :: Blk b (.cells (spCells c bm bl mp sv) tySp (0, 0)) :: DictA bm c.main :: SetAt mp c.touched :: OwnSl 49 2 c.steps.length sv (stepsV c.steps) :: (entsL c.main.items c.ent ++ (F ++ Y)))
    (.slice none 0 0) rfl ok.wl hld rfl rfl ?_ ?_ ?_ ?_
  · intro i x Y
    simp
  · intro w hw
    have h1 := sat_ownNil (e := 122) (sz := 2) hw
    rw [List.append_nil]
    simp only [List.take_zero, List.filter_nil, List.flatMap_nil, List.length_nil]
    revert h1
    clear hw
    revert w
    exact fun _ hw => sat_pick [6, 1, 1, 0, 0, 0, 0, 0, 0] 0 hw
  · intro l r i k p x Y hr hi
    have hmem : (k, p) ∈ c.main.items := hl _ (List.mem_of_getElem? hi)
    obtain ⟨R, hR⟩ := mem_split hmem
    have htake : c.late.items.take (i + 1) = c.late.items.take i ++ [(k, p)] := by
      obtain ⟨h1, h2⟩ := List.getElem?_eq_some_iff.1 hi
      rw [List.take_succ_eq_append_getElem h1, h2]
    have hlen : ((c.late.items.take i).filter due).length ≤ 1099511627776 := by
      refine Nat.le_trans (List.length_filter_le _ _) ?_
      rw [List.length_take, ← ok.wl.count]; omega
    refine run_seq ?_
    refine run_region ?_
    refine k_val (ev_assign rfl) rfl ?_
    refine run_region ?_
    refine k_val (ev_assign rfl) rfl ?_
    refine run_beginRound' hr.ready ?_
    refine Run.exm (fun _ hw => sat_open8 hR hw) ?_
    rintro vp -
    refine run_block ?_
    refine run_seq ?_
    refine run_quiet (by kernel_rfl) (by kernel_rfl) ?_
    refine q_val (ev_load rfl (by kernel_rfl)) rfl ?_
    refine q_val (ev_move rfl) rfl ?_
    refine q_val (ev_nilCheck rfl) rfl ?_
    refine q_val (ev_fieldAddr0 3 rfl (by kernel_rfl)) rfl ?_
    refine q_val (ev_load rfl (by kernel_rfl)) rfl ?_
    refine q_callE rfl rfl (by kernel_rfl) (past_spec (c := c) (bm := bm) (bl := bl) (mp := mp) (sv := sv)) ?_
    cases hd : c.past (c.ent k).at_ with
    | true =>
      refine q_nil ?_
      refine run_cond (t := true) rfl ?_
      refine run_region ?_
      refine k_val (ev_load rfl (by kernel_rfl)) rfl ?_
      refine k_val (ev_move rfl) rfl ?_
      refine k_val (ev_move rfl) rfl ?_
      refine k_val (ev_build1 [.string ByteArray.empty, .pointer none] [0, 1] (by kernel_rfl) (by kernel_rfl) rfl rfl rfl) rfl ?_
      refine k_buildSlice1 (e := 122) (B := 24) (z := #[.string ByteArray.empty, .pointer none]) rfl ⟨by kernel_rfl, by kernel_rfl, by kernel_rfl, by kernel_rfl⟩ rfl (by decide) (by decide) rfl ?_
      intro nb3
      refine k_append1 (e := 122) (B := 24) (z := #[.string ByteArray.empty, .pointer none]) 2 rfl rfl ⟨by kernel_rfl, by kernel_rfl, by kernel_rfl, by kernel_rfl⟩ rfl (by kernel_rfl) rfl rfl (by decide) (by omega) rfl ?_
      intro nv1 hnv1
      refine k_store rfl rfl rfl (by assumption) (by kernel_rfl) ?_
      refine run_inBlock ?_
      refine Run.mem (L' := Blk l (.loop { r with state := .busy }) :: (Blk nb2 (.cells #[nv1] 114 (0, 0)) :: OwnSl 122 2 ((c.late.items.take (i + 1)).filter due).length nv1 (((c.late.items.take (i + 1)).filter due).flatMap dueV) ::
        Blk nb1 (.cells #[ptrV b] 26 (0, 0)) :: Blk b (.cells (spCells c bm bl mp sv) tySp (0, 0)) :: DictA bm c.main :: SetAt mp c.touched :: OwnSl 49 2 c.steps.length sv (stepsV c.steps) :: (entsL c.main.items c.ent ++ (F ++ Y)))) ?_ ?_
      · exact run_roundBack hr ⟨rfl, nv1, rfl⟩
      · have e : (c.late.items.take (i + 1)).filter due = (c.late.items.take i).filter due ++ [(k, p)] := by
          rw [htake, List.filter_append]
          have : due (k, p) = true := hd
          simp [this]
        rw [e, List.flatMap_append, List.length_append]
        intro w hw
        refine sat_shut8 (vp := vp) hR ?_
        revert w
        exact fun _ hw => sat_pick [2, 2, 2, 2, 0, 1, 1, 1, 1, 1] 1 hw
    | false =>
      refine q_nil ?_
      refine run_cond (t := false) rfl ?_
      refine run_skip ?_
      refine run_inBlock ?_
      refine Run.mem (L' := Blk l (.loop { r with state := .busy }) :: (Blk nb2 (.cells #[x] 114 (0, 0)) :: OwnSl 122 2 ((c.late.items.take (i + 1)).filter due).length x (((c.late.items.take (i + 1)).filter due).flatMap dueV) ::
        Blk nb1 (.cells #[ptrV b] 26 (0, 0)) :: Blk b (.cells (spCells c bm bl mp sv) tySp (0, 0)) :: DictA bm c.main :: SetAt mp c.touched :: OwnSl 49 2 c.steps.length sv (stepsV c.steps) :: (entsL c.main.items c.ent ++ (F ++ Y)))) ?_ ?_
      · exact run_roundBack hr ⟨rfl, x, rfl⟩
      · have e : (c.late.items.take (i + 1)).filter due = (c.late.items.take i).filter due := by
          rw [htake, List.filter_append]
          have : due (k, p) = false := hd
          simp [this]
        rw [e]
        intro w hw
        exact sat_shut8 (vp := vp) hR hw
  · intro x Y dd
    rw [List.take_length]
    generalize hxs : c.late.items.filter due = xs
    have hxm : ∀ y ∈ xs, y ∈ c.main.items := fun y hy => hl y (List.mem_filter.1 (by rw [hxs]; exact hy)).1
    have hxl : xs.length ≤ 1099511627776 := by
      rw [← hxs]
      refine Nat.le_trans (List.length_filter_le _ _) ?_
      rw [← ok.wl.count]; omega
    refine run_inBlock ?_
    refine run_seq ?_
    refine run_region ?_
    refine k_val (ev_load rfl (by kernel_rfl)) rfl ?_
    refine OpK.mem (L' := OwnSl 122 2 xs.length x (xs.flatMap dueV) :: Blk dd (.deferred (some [])) :: Blk nb2 (.cells #[x] 114 (0, 0)) :: Blk nb1 (.cells #[ptrV b] 26 (0, 0)) :: SpO b c bm bl mp sv (F ++ Y)) (by exact fun _ hw => sat_pick [3, 0, 1, 1, 1, 1, 0, 0, 0] 0 hw) ?_
    refine k_call rfl rfl (by kernel_rfl) (duesort_spec (items := c.main.items) (ent := c.ent) ok.wm.uniq hxm ?_ (by omega)) ?_
    · intro y hy
      refine .tail _ (.tail _ (.tail _ (.tail _ (.tail _ (.tail _ (.tail _ (.tail _ ?_)))))))
      exact List.mem_append_left _ (List.mem_map.2 ⟨y, hy, rfl⟩)
    rintro _ _ rfl
    have hyl : (xs.mergeSort (dueLe c.ent)).length = xs.length := List.length_mergeSort xs
    generalize hys : xs.mergeSort (dueLe c.ent) = ys at *
    rw [← hyl]
    have hyd : (ys.map (·.1)).Nodup := by
      have h1 : ys.Perm xs := by rw [← hys]; exact List.mergeSort_perm _ _
      have h2 : (xs.map (·.1)).Nodup := by
        rw [← hxs]
        exact List.Nodup.sublist (List.Sublist.map _ List.filter_sublist) ok.wl.uniq
      exact D.nodupP h1 h2
    have hym : ∀ y ∈ ys, y ∈ c.main.items := fun y hy => hxm y (by rw [← hys] at hy; exact List.mem_mergeSort.1 hy)
    have hkeys : ys.map (·.1) = c.dues := by
      rw [← hys]
      unfold Sp.dues D.keys
      rw [List.filter_map, List.map_mergeSort (r := dueLe c.ent) (s := fun x y => !lt2 ((c.ent y).at_, y) ((c.ent x).at_, x)) (fun a _ b _ => rfl), ← hxs]
      rfl
    have hinv := sweep_inv ok hv hl hym hyd
    refine RunOps.exm (κ := Option Addr × Nat × List HP) (fun w hw => own_x hw) ?_
    rintro ⟨base, cap, M⟩ ⟨rfl, h1, h2, h3, -⟩
    simp only at h1 h2 h3 ⊢
    refine RunOps.perm (L' := Blk dd (.deferred (some [])) :: Blk nb2 (.cells #[.slice base ys.length cap] 114 (0, 0)) :: Blk nb1 (.cells #[ptrV b] 26 (0, 0)) :: SpO b c bm bl mp sv (F ++ Y ++ M)) ?_ ?_
    · refine List.perm_append_comm.trans ?_
      simp
    have hbase : base = none ∨ ∃ b, base = some ⟨b, 0, none⟩ := by
      rcases h3 with ⟨h, _⟩ | ⟨b', C, h, _⟩
      · exact .inl h
      · exact .inr ⟨b', h⟩
    obtain ⟨q, hq⟩ : ∃ q, q = min most.toNat ys.length := ⟨_, rfl⟩
    have hqi : (if most < (ys.length : Int) then most else (ys.length : Int)) = (q : Int) := by split <;> omega
    refine run_seq ?_
    refine run_region ?_
    refine k_val (ev_load rfl (by kernel_rfl)) rfl ?_
    refine k_val (ev_load rfl (by kernel_rfl)) rfl ?_
    refine k_val (ev_lenSlice (e := 122) rfl (by kernel_rfl)) rfl ?_
    refine k_val (ev_move rfl) rfl ?_
    refine k_val (ev_minI rfl rfl) rfl ?_
    rw [hqi]
    refine k_val (ev_slice (e := 122) (l := 0) (h := q) 2 rfl rfl ⟨_, rfl⟩ (by omega) (by omega) (by kernel_rfl) (by kernel_rfl)) rfl ?_
    rw [slice_front hbase]
    refine k_store rfl rfl rfl rfl (by kernel_rfl) ?_
    refine run_seq ?_
    refine run_seq ?_
    refine run_region ?_
    refine k_val (ev_load rfl (by kernel_rfl)) rfl ?_
    refine k_val (ev_lenSlice (e := 122) rfl (by kernel_rfl)) rfl ?_
    refine k_val (ev_move rfl) rfl ?_
    refine run_while (ι := Nat × Value) (κ := Value) (fun z => q - z.1) (fun z => z.1 ≤ q)
      (fun z => [(2, ptrV nb1), (5, ptrV nb2), (43, .slice base q cap), (44, .int .i64 q), (45, .int .i64 z.1)])
      (fun z => Blk dd (.deferred (some [])) :: Blk nb2 (.cells #[.slice base q cap] 114 (0, 0)) :: Blk nb1 (.cells #[ptrV b] 26 (0, 0)) :: SpO b ((ys.take z.1).foldl (fun s x => s.expires x.1) c) bm bl mp z.2 (F ++ Y ++ M))
      (fun _ => True) (fun _ => [(5, ptrV nb2)])
      (fun v => Blk dd (.deferred (some [])) :: Blk nb2 (.cells #[.slice base q cap] 114 (0, 0)) :: Blk nb1 (.cells #[ptrV b] 26 (0, 0)) :: SpO b ((ys.take q).foldl (fun s x => s.expires x.1) c) bm bl mp v (F ++ Y ++ M))
      (0, sv) (Nat.zero_le _) ⟨rfl, rfl, rfl, rfl, rfl, trivial⟩ rfl ?_ ?_
    · rintro ⟨i, svi⟩ hi next out
      simp only at hi ⊢
      by_cases hlt : i < q
      · have hil : i < ys.length := by omega
        rcases h3 with ⟨_, h, _⟩ | ⟨b', C, rfl, hC, hCs, hM⟩
        · omega
        obtain ⟨y, hy⟩ : ∃ y, ys[i]? = some y := ⟨_, List.getElem?_eq_getElem hil⟩
        have hrow := row_elem (enc := dueV) (k := 2) (fun _ => rfl) (by decide) hC hy
        obtain ⟨hi1, hi2, hi3, hi4⟩ := hinv i (by omega)
        have hyi : ys[i] = y := (List.getElem?_eq_some_iff.1 hy).2
        have htk : ys.take (i + 1) = ys.take i ++ [y] := by rw [List.take_succ_eq_append_getElem hil, hyi]
        have hmi : (y.1, y.2) ∈ ((ys.take i).foldl (fun s x => s.expires x.1) c).main.items := hi4 y (by rw [List.drop_eq_getElem_cons hil, hyi]; exact .head _)
        have hnx := next
        generalize hd : (ys.take i).foldl (fun s x => s.expires x.1) c = d at *
        haveI : Reads G (Blk dd (.deferred (some [])) :: Blk nb2 (.cells #[.slice (some ⟨b', 0, none⟩) q cap] 114 (0, 0)) :: Blk nb1 (.cells #[ptrV b] 26 (0, 0)) :: SpO b d bm bl mp svi (F ++ Y ++ M)) b' C :=
          reads_by (hM (Blk dd (.deferred (some [])) :: Blk nb2 (.cells #[.slice (some ⟨b', 0, none⟩) q cap] 114 (0, 0)) :: Blk nb1 (.cells #[ptrV b] 26 (0, 0)) :: SpO b d bm bl mp svi (F ++ Y))) fun w hw => hw.perm (perm_tail8 _ _)
        refine run_seq ?_
        refine run_region ?_
        refine k_val (ev_bT (ev_lt rfl rfl) (by first | assumption | omega)) rfl ?_
        refine run_seq ?_
        refine run_cond (t := true) rfl ?_
        refine run_skip ?_
        refine run_seq ?_
        refine run_block ?_
        refine run_seq ?_
        refine run_region ?_
        refine k_val (ev_indexAddrO (e := 122) 2 rfl rfl (by first | assumption | omega) (by kernel_rfl) (by kernel_rfl)) rfl ?_
        refine k_val (ev_loadRow (i := i) (off := 0 + i * 2) 2 rfl (Nat.zero_add _) hrow (by kernel_rfl)) rfl ?_
        refine k_alloc (#[.string ByteArray.empty, .pointer none]) (by kernel_rfl) rfl ?_
        intro nb3
        refine k_storeAllS 2 rfl rfl rfl rfl rfl (by kernel_rfl) ?_
        refine run_region ?_
        refine k_val (ev_load rfl (by kernel_rfl)) rfl ?_
        refine k_val (ev_fieldAddr0 0 rfl (by kernel_rfl)) rfl ?_
        refine k_val (ev_load rfl (by kernel_rfl)) rfl ?_
        refine k_val (ev_fieldAddr0 1 rfl (by kernel_rfl)) rfl ?_
        refine k_val (ev_load rfl (by kernel_rfl)) rfl ?_
        refine OpK.perm (sp_pre [_, _, _, _]) ?_
        refine k_call rfl rfl (by kernel_rfl) (expires_spec hi1 (by omega) hmi) ?_
        rintro _ _ ⟨sv', rfl⟩
        refine RunOps.perm (sp_pre [_, _, _, _]).symm ?_
        refine RunOps.mem (fun _ hw => hw.tail) ?_
        refine run_inBlock ?_
        refine run_region ?_
        refine k_val (ev_addN (n := 1) rfl rfl rfl rfl (by omega)) rfl ?_
        refine k_val (ev_move rfl) rfl ?_
        refine Run.mem (L' := Blk dd (.deferred (some [])) :: Blk nb2 (.cells #[.slice (some ⟨b', 0, none⟩) q cap] 114 (0, 0)) :: Blk nb1 (.cells #[ptrV b] 26 (0, 0)) :: SpO b ((ys.take (i + 1)).foldl (fun s x => s.expires x.1) c) bm bl mp sv' (F ++ Y ++ M)) ?_ ?_
        · refine hnx (i + 1, sv') _ (by simp only; omega) (by simp only; omega) ?_
          exact ⟨rfl, rfl, rfl, rfl, rfl, trivial⟩
        · rw [htk, List.foldl_append, hd]
          exact fun _ hw => hw
      · have hie : i = q := by omega
        subst hie
        refine run_seq ?_
        refine run_region ?_
        refine k_val (ev_bF (ev_lt rfl rfl) (by first | assumption | omega)) rfl ?_
        refine run_seq ?_
        refine run_cond (t := false) rfl ?_
        refine run_exit rfl (out svi _ trivial ?_)
        exact ⟨rfl, trivial⟩
    · intro v _
      obtain ⟨hi1, hi2, hi3, hi4⟩ := hinv q (by omega)
      refine run_seq ?_
      refine run_region ?_
      refine k_val (ev_load rfl (by kernel_rfl)) rfl ?_
      refine k_val (ev_lenSlice (e := 122) rfl (by kernel_rfl)) rfl ?_
      refine k_val (ev_assign rfl) rfl ?_
      refine ret_specM [dd] (L₀ := SpA b (((ys.take q).foldl (fun s x => s.expires x.1) c).map nil1) :: F) Tryz.func16 rfl rfl ?_ ?_
      · have e1 : (s.sweep most) = ((ys.take q).foldl (fun s x => s.expires x.1) c).map nil1 := by
          subst hs
          unfold Sp.sweep
          rw [if_neg hm]
          have e2 : (c.map nil1).dues = c.dues := by
            unfold Sp.dues
            have : (c.map nil1).late.keys = c.late.keys := D.map_keys nil1 _
            rw [this]; rfl
          rw [e2, map_sweeps, ← hkeys, ← List.map_take, List.foldl_map]
          have e3 : ys.take most.toNat = ys.take q := by rw [hq, ← List.take_eq_take_min]
          rw [e3]
        rw [e1]
      · intro w hw
        have h1 := hw.swap.tail.swap.tail
        have h2 := sat_mkSp hi3 (h1.perm sp_front.symm)
        have h3 := h2.swap
        rw [List.append_assoc] at h3
        exact Sat.left (L := Blk dd (.deferred (some [])) :: SpA b (((ys.take q).foldl (fun s x => s.expires x.1) c).map nil1) :: F) h3
end
end Go.PS
