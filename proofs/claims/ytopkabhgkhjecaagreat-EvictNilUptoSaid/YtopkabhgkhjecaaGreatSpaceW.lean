/-
  The keyspace in memory; its small methods, walked.
  Conditions: each contract's own.
-/
import Derived.Test.YtopkabhgkhjecaaGreatDictA
import Derived.Test.YtopkabhgkhjecaaGreatSpaceP
import Derived.Test.YtopkabhgkhjecaaGreatIface
namespace Go.PS
open Go Go.Proofs
set_option maxRecDepth 10000

abbrev tyText : Nat := 173
abbrev tyVal : Nat := 177
abbrev tyEnt : Nat := 120
abbrev tySp : Nat := 93
abbrev entCells (vp : Nat) (e : PE) : Array Value := #[ptrV vp, .int .i64 e.text.size, .int .u64 e.stamp, .int .i64 e.at_]
/-- An entry with its value. -/
def EntA (p : Nat) (e : PE) : HP := fun h => ∃ vp, Star [Blk p (.cells (entCells vp e) tyEnt (0, 0)), Blk vp (.cells #[.iface tyText (.string e.text)] tyVal (0, 0))] h
theorem sat_ent {G w : World} {L : List HP} {p : Nat} {e : PE} (H : Sat G w (EntA p e :: L)) : ∃ vp, True ∧ Sat G w (Blk p (.cells (entCells vp e) tyEnt (0, 0)) :: Blk vp (.cells #[.iface tyText (.string e.text)] tyVal (0, 0)) :: L) := by
  unfold EntA at H
  obtain ⟨vp, H⟩ := H.ex
  exact ⟨vp, trivial, H.ungroup⟩
theorem sat_mkEnt {G w : World} {L : List HP} {p vp : Nat} {e : PE} (H : Sat G w (Blk p (.cells (entCells vp e) tyEnt (0, 0)) :: Blk vp (.cells #[.iface tyText (.string e.text)] tyVal (0, 0)) :: L)) : Sat G w (EntA p e :: L) :=
  (Sat.group (L := [_, _]) H).weak fun _ h => ⟨vp, h⟩

def stepV (x : Int × ByteArray) : List Value := [.int .i64 x.1, .string x.2]
def stepsV (l : List (Int × ByteArray)) : List Value := l.flatMap stepV
theorem stepsV_len (l : List (Int × ByteArray)) : (stepsV l).length = l.length * 2 := by
  induction l with
  | nil => rfl
  | cons x l ih => simp [stepsV, stepV] at ih ⊢; omega
abbrev spCells (c : Sp Nat) (bm bl mp : Nat) (sv : Value) : Array Value :=
  #[.int .u64 c.cfg.seed, .int .i64 c.cfg.most, .int .i64 c.cfg.policy, .int .i64 c.cfg.samples, .int .i64 c.now, .int .u64 c.uses, .int .i64 c.used, ptrV bm, ptrV bl, .map (some mp), sv]
def entsL (l : List (ByteArray × Nat)) (ent : ByteArray → PE) : List HP := l.map fun x => EntA x.2 (ent x.1)
/-- A space, open, with some of its entries, and what lies beside it. -/
abbrev SpR (b : Nat) (c : Sp Nat) (bm bl mp : Nat) (sv : Value) (R : List (ByteArray × Nat)) (ent : ByteArray → PE) (F : List HP) : List HP :=
  Blk b (.cells (spCells c bm bl mp sv) tySp (0, 0)) :: DictA bm c.main :: DictA bl c.late :: SetAt mp c.touched :: OwnSl 49 2 c.steps.length sv (stepsV c.steps) :: (entsL R ent ++ F)
/-- A space, open, and what lies beside it. -/
abbrev SpO (b : Nat) (c : Sp Nat) (bm bl mp : Nat) (sv : Value) (F : List HP) : List HP := SpR b c bm bl mp sv c.main.items c.ent F

section
variable {G : World} {L F : List HP} {b bm bl mp : Nat} {c : Sp Nat} {sv : Value}

theorem costs_spec {p vp : Nat} {e : PE} (key : ByteArray) [Reads G L p (entCells vp e)] (hk : key.size ≤ 1048576) (ht : e.text.size ≤ 1048576) :
    Spec Tryz.prog G 104 [ptrV p, .string key] L fun v L' => v = .int .i64 (Sp.costs key e) ∧ L' = L := by
  refine spec_of_run Tryz.func104 rfl rfl ?_
  by_cases h : 0 < e.at_
  · refine run_seq ?_
    refine run_region ?_
    refine k_val (ev_assign rfl) rfl ?_
    refine run_seq ?_
    refine run_region ?_
    refine k_val (ev_move rfl) rfl ?_
    refine k_val (ev_lenString rfl (by kernel_rfl)) rfl ?_
    refine k_val (ev_addN (m := 48) rfl rfl rfl rfl (by omega)) rfl ?_
    refine k_val (ev_move rfl) rfl ?_
    refine k_val (ev_nilCheck rfl) rfl ?_
    refine k_val (ev_fieldAddr0 1 rfl (by kernel_rfl)) rfl ?_
    refine k_val (ev_load rfl (by kernel_rfl)) rfl ?_
    refine k_val (ev_addN rfl rfl rfl rfl (by omega)) rfl ?_
    refine k_val (ev_assign rfl) rfl ?_
    refine run_seq ?_
    refine run_seq ?_
    refine run_region ?_
    refine k_val (ev_move rfl) rfl ?_
    refine k_val (ev_nilCheck rfl) rfl ?_
    refine k_val (ev_fieldAddr0 3 rfl (by kernel_rfl)) rfl ?_
    refine k_val (ev_load rfl (by kernel_rfl)) rfl ?_
    refine k_val (ev_bT (ev_gt rfl rfl) (by first | assumption | omega)) rfl ?_
    refine run_cond (t := true) rfl ?_
    refine run_region ?_
    refine k_val (ev_move rfl) rfl ?_
    refine k_val (ev_addN (n := 16) rfl rfl rfl rfl (by omega)) rfl ?_
    refine k_val (ev_assign rfl) rfl ?_
    refine run_seq ?_
    refine run_region ?_
    refine k_val (ev_move rfl) rfl ?_
    refine k_val (ev_assign rfl) rfl ?_
    exact ret_spec Tryz.func104 rfl rfl ⟨by unfold Sp.costs; rw [if_pos h]; rfl, rfl⟩
  · refine run_seq ?_
    refine run_region ?_
    refine k_val (ev_assign rfl) rfl ?_
    refine run_seq ?_
    refine run_region ?_
    refine k_val (ev_move rfl) rfl ?_
    refine k_val (ev_lenString rfl (by kernel_rfl)) rfl ?_
    refine k_val (ev_addN (m := 48) rfl rfl rfl rfl (by omega)) rfl ?_
    refine k_val (ev_move rfl) rfl ?_
    refine k_val (ev_nilCheck rfl) rfl ?_
    refine k_val (ev_fieldAddr0 1 rfl (by kernel_rfl)) rfl ?_
    refine k_val (ev_load rfl (by kernel_rfl)) rfl ?_
    refine k_val (ev_addN rfl rfl rfl rfl (by omega)) rfl ?_
    refine k_val (ev_assign rfl) rfl ?_
    refine run_seq ?_
    refine run_seq ?_
    refine run_region ?_
    refine k_val (ev_move rfl) rfl ?_
    refine k_val (ev_nilCheck rfl) rfl ?_
    refine k_val (ev_fieldAddr0 3 rfl (by kernel_rfl)) rfl ?_
    refine k_val (ev_load rfl (by kernel_rfl)) rfl ?_
    refine k_val (ev_bF (ev_gt rfl rfl) (by first | assumption | omega)) rfl ?_
    refine run_cond (t := false) rfl ?_
    refine run_skip ?_
    refine run_seq ?_
    refine run_region ?_
    refine k_val (ev_move rfl) rfl ?_
    refine k_val (ev_assign rfl) rfl ?_
    exact ret_spec Tryz.func104 rfl rfl ⟨by unfold Sp.costs; rw [if_neg h]; simp [packed], rfl⟩
theorem past_spec {a : Int} [Reads G L b (spCells c bm bl mp sv)] :
    Spec Tryz.prog G 55 [ptrV b, .int .i64 a] L fun v L' => v = .bool (c.past a) ∧ L' = L := by
  refine spec_of_run Tryz.func55 rfl rfl ?_
  by_cases h : 0 < a
  · refine run_seq ?_
    refine run_region ?_
    refine k_val (ev_assign rfl) rfl ?_
    refine run_seq ?_
    refine run_region ?_
    refine k_val (ev_move rfl) rfl ?_
    refine k_val (ev_bT (ev_gt rfl rfl) (by first | assumption | omega)) rfl ?_
    refine k_val (ev_move rfl) rfl ?_
    refine k_guard rfl rfl rfl ?_
    refine k_val (ev_move rfl) rfl ?_
    refine k_guard rfl rfl rfl ?_
    refine k_val (ev_move rfl) rfl ?_
    refine k_guard rfl rfl rfl ?_
    refine k_val (ev_nilCheck rfl) rfl ?_
    refine k_guard rfl rfl rfl ?_
    refine k_val (ev_fieldAddr0 4 rfl (by kernel_rfl)) rfl ?_
    refine k_guard rfl rfl rfl ?_
    refine k_val (ev_load rfl (by kernel_rfl)) rfl ?_
    refine k_guard rfl rfl rfl ?_
    refine k_val (ev_le rfl rfl) rfl ?_
    refine k_val (ev_pickT rfl rfl) rfl ?_
    refine k_val (ev_assign rfl) rfl ?_
    exact ret_spec Tryz.func55 rfl rfl ⟨by unfold Sp.past; simp [h, packed], rfl⟩
  · refine run_seq ?_
    refine run_region ?_
    refine k_val (ev_assign rfl) rfl ?_
    refine run_seq ?_
    refine run_region ?_
    refine k_val (ev_move rfl) rfl ?_
    refine k_val (ev_bF (ev_gt rfl rfl) (by first | assumption | omega)) rfl ?_
    refine k_val (ev_move rfl) rfl ?_
    refine k_skip rfl rfl rfl rfl ?_
    refine k_skip rfl rfl rfl rfl ?_
    refine k_skip rfl rfl rfl rfl ?_
    refine k_skip rfl rfl rfl rfl ?_
    refine k_skip rfl rfl rfl rfl ?_
    refine k_skip rfl rfl rfl rfl ?_
    refine k_val (ev_pickF rfl rfl) rfl ?_
    refine k_val (ev_assign rfl) rfl ?_
    exact ret_spec Tryz.func55 rfl rfl ⟨by unfold Sp.past; simp [h, packed], rfl⟩
theorem touch_spec (key : ByteArray) : Spec Tryz.prog G 109 [ptrV b, .string key] (SpO b c bm bl mp sv F) fun _ L' => L' = SpO b (c.touch key) bm bl mp sv F := by
  refine spec_of_run Tryz.func109 rfl rfl ?_
  refine run_region ?_
  refine k_val (ev_move rfl) rfl ?_
  refine k_val (ev_nilCheck rfl) rfl ?_
  refine k_val (ev_fieldAddr0 9 rfl (by kernel_rfl)) rfl ?_
  refine k_val (ev_load rfl (by kernel_rfl)) rfl ?_
  refine k_val (ev_move rfl) rfl ?_
  refine k_val (ev_build1 [] [] (by kernel_rfl) (by kernel_rfl) rfl rfl rfl) rfl ?_
  refine k_touch rfl rfl rfl (by kernel_rfl) ?_
  refine Run.perm (L' := SpO b (c.touch key) bm bl mp sv F) (by refine end_spec Tryz.func109 rfl rfl ?_; rfl) ?_
  exact perm_pick [1, 1, 1, 0, 0] _
theorem config_spec [Reads G L b (spCells c bm bl mp sv)] : Spec Tryz.prog G 48 [ptrV b] L fun v L' => v = .agg #[.int .u64 c.cfg.seed, .int .i64 c.cfg.most, .int .i64 c.cfg.policy, .int .i64 c.cfg.samples] ∧ ∃ X, L' = X :: L := by
  refine spec_of_run Tryz.func48 rfl rfl ?_
  refine run_seq ?_
  refine run_region ?_
  refine k_alloc (#[.int .u64 0, .int .i64 0, .int .i64 0, .int .i64 0]) (by kernel_rfl) rfl ?_
  intro nb1
  refine run_seq ?_
  refine run_seq ?_
  refine run_region ?_
  refine k_val (ev_move rfl) rfl ?_
  refine k_val (ev_eqNil rfl rfl (by kernel_rfl)) rfl ?_
  refine run_cond (t := false) rfl ?_
  refine run_skip ?_
  refine run_seq ?_
  refine run_region ?_
  refine k_val (ev_move rfl) rfl ?_
  refine k_val (ev_nilCheck rfl) rfl ?_
  refine k_val (ev_fieldAddr0 0 rfl (by kernel_rfl)) rfl ?_
  refine k_val (ev_loadPart 4 rfl (by kernel_rfl)) rfl ?_
  refine k_storeAllS 4 rfl rfl rfl rfl rfl (by kernel_rfl) ?_
  exact ret_specR Tryz.func48 rfl (resR_cell rfl (by kernel_rfl) resR_nil) ⟨rfl, _, rfl⟩
theorem now_spec [Reads G L b (spCells c bm bl mp sv)] : Spec Tryz.prog G 26 [ptrV b] L fun v L' => v = .int .i64 c.now ∧ L' = L := by
  refine spec_of_run Tryz.func26 rfl rfl ?_
  refine run_seq ?_
  refine run_region ?_
  refine k_val (ev_assign rfl) rfl ?_
  refine run_seq ?_
  refine run_seq ?_
  refine run_region ?_
  refine k_val (ev_move rfl) rfl ?_
  refine k_val (ev_eqNil rfl rfl (by kernel_rfl)) rfl ?_
  refine run_cond (t := false) rfl ?_
  refine run_skip ?_
  refine run_seq ?_
  refine run_region ?_
  refine k_val (ev_move rfl) rfl ?_
  refine k_val (ev_nilCheck rfl) rfl ?_
  refine k_val (ev_fieldAddr0 4 rfl (by kernel_rfl)) rfl ?_
  refine k_val (ev_load rfl (by kernel_rfl)) rfl ?_
  refine k_val (ev_assign rfl) rfl ?_
  exact ret_spec Tryz.func26 rfl rfl ⟨rfl, rfl⟩
theorem used_spec [Reads G L b (spCells c bm bl mp sv)] : Spec Tryz.prog G 15 [ptrV b] L fun v L' => v = .int .i64 c.used ∧ L' = L := by
  refine spec_of_run Tryz.func15 rfl rfl ?_
  refine run_seq ?_
  refine run_region ?_
  refine k_val (ev_assign rfl) rfl ?_
  refine run_seq ?_
  refine run_seq ?_
  refine run_region ?_
  refine k_val (ev_move rfl) rfl ?_
  refine k_val (ev_eqNil rfl rfl (by kernel_rfl)) rfl ?_
  refine run_cond (t := false) rfl ?_
  refine run_skip ?_
  refine run_seq ?_
  refine run_region ?_
  refine k_val (ev_move rfl) rfl ?_
  refine k_val (ev_nilCheck rfl) rfl ?_
  refine k_val (ev_fieldAddr0 6 rfl (by kernel_rfl)) rfl ?_
  refine k_val (ev_load rfl (by kernel_rfl)) rfl ?_
  refine k_val (ev_assign rfl) rfl ?_
  exact ret_spec Tryz.func15 rfl rfl ⟨rfl, rfl⟩
theorem use_spec {p vp : Nat} {e : PE} : Spec Tryz.prog G 108 [ptrV b, ptrV p] (Blk b (.cells (spCells c bm bl mp sv) tySp (0, 0)) :: Blk p (.cells (entCells vp e) tyEnt (0, 0)) :: F) fun _ L' =>
    L' = Blk b (.cells (spCells { c with uses := IntKind.u64.wrap (c.uses + 1) } bm bl mp sv) tySp (0, 0)) :: Blk p (.cells (entCells vp { e with stamp := IntKind.u64.wrap (c.uses + 1) }) tyEnt (0, 0)) :: F := by
  refine spec_of_run Tryz.func108 rfl rfl ?_
  refine run_seq ?_
  refine run_region ?_
  refine k_val (ev_move rfl) rfl ?_
  refine k_val (ev_nilCheck rfl) rfl ?_
  refine k_val (ev_fieldAddr0 5 rfl (by kernel_rfl)) rfl ?_
  refine k_val (ev_load rfl (by kernel_rfl)) rfl ?_
  refine k_val (ev_add rfl rfl) rfl ?_
  refine k_val (ev_nilCheck rfl) rfl ?_
  refine k_val (ev_fieldAddr0 5 rfl (by kernel_rfl)) rfl ?_
  refine k_store rfl rfl rfl rfl (by kernel_rfl) ?_
  refine run_region ?_
  refine k_val (ev_move rfl) rfl ?_
  refine k_val (ev_move rfl) rfl ?_
  refine k_val (ev_nilCheck rfl) rfl ?_
  refine k_val (ev_fieldAddr0 5 rfl (by kernel_rfl)) rfl ?_
  refine k_val (ev_load rfl (by kernel_rfl)) rfl ?_
  refine k_val (ev_nilCheck rfl) rfl ?_
  refine k_val (ev_fieldAddr0 2 rfl (by kernel_rfl)) rfl ?_
  refine k_store rfl rfl rfl rfl (by kernel_rfl) ?_
  refine end_spec Tryz.func108 rfl rfl ?_
  rfl

theorem ents_open {l R : List (ByteArray × Nat)} {ent : ByteArray → PE} {key : ByteArray} {p : Nat} (hp : l.Perm ((key, p) :: R)) : (entsL l ent ++ F).Perm (EntA p (ent key) :: (entsL R ent ++ F)) :=
  (hp.map fun x : ByteArray × Nat => EntA x.2 (ent x.1)).append_right F
theorem ents_perm {l m : List (ByteArray × Nat)} {ent : ByteArray → PE} (hp : l.Perm m) : (entsL l ent ++ F).Perm (entsL m ent ++ F) := (hp.map fun x : ByteArray × Nat => EntA x.2 (ent x.1)).append_right F
theorem front5 {A B C D E : HP} {X Y : List HP} {Z : HP} (h : X.Perm (Z :: Y)) : (A :: B :: C :: D :: E :: X).Perm (Z :: A :: B :: C :: D :: E :: Y) :=
  (((((h.cons E).cons D).cons C).cons B).cons A).trans (List.perm_middle (l₁ := [A, B, C, D, E]))
theorem tail5 {A B C D E : HP} {X Y : List HP} (h : X.Perm Y) : (A :: B :: C :: D :: E :: X).Perm (A :: B :: C :: D :: E :: Y) := ((((h.cons E).cons D).cons C).cons B).cons A
theorem mem_split {l : List (ByteArray × Nat)} {x : ByteArray × Nat} (h : x ∈ l) : ∃ R, l.Perm (x :: R) := by
  obtain ⟨a, b, e⟩ := List.append_of_mem h
  exact ⟨a ++ b, by rw [e]; exact List.perm_middle⟩

theorem spR_perm {R : List (ByteArray × Nat)} (h : R.Perm c.main.items) : (SpR b c bm bl mp sv R c.ent F).Perm (SpO b c bm bl mp sv F) := tail5 (ents_perm h)
/-- A space with one entry at hand. -/
abbrev SpE (b : Nat) (c : Sp Nat) (bm bl mp : Nat) (sv : Value) (p vp : Nat) (e : PE) (R : List (ByteArray × Nat)) (ent : ByteArray → PE) (F : List HP) : List HP :=
  Blk p (.cells (entCells vp e) tyEnt (0, 0)) :: Blk vp (.cells #[.iface tyText (.string e.text)] tyVal (0, 0)) :: Blk b (.cells (spCells c bm bl mp sv) tySp (0, 0)) :: DictA bm c.main :: DictA bl c.late :: SetAt mp c.touched :: OwnSl 49 2 c.steps.length sv (stepsV c.steps) :: (entsL R ent ++ F)
theorem sp_open {w : World} {key : ByteArray} {p : Nat} {R : List (ByteArray × Nat)} (hp : c.main.items.Perm ((key, p) :: R)) (hw : Sat G w (SpO b c bm bl mp sv F)) : ∃ vp, True ∧ Sat G w (SpE b c bm bl mp sv p vp (c.ent key) R c.ent F) :=
  sat_ent (hw.perm (front5 (ents_open hp)))
theorem sp_shut {w : World} {key : ByteArray} {p vp : Nat} {R : List (ByteArray × Nat)} (hp : c.main.items.Perm ((key, p) :: R)) (hw : Sat G w (SpE b c bm bl mp sv p vp (c.ent key) R c.ent F)) : Sat G w (SpO b c bm bl mp sv F) :=
  (sat_mkEnt hw).perm (front5 (ents_open hp)).symm

/-- What the entry's key and number are, out of a right space. -/
theorem item_find {key : ByteArray} {p : Nat} (ok : c.Ok) (hm : (key, p) ∈ c.main.items) : c.main.find key = some p ∧ key ∈ c.main.keys := ⟨ok.wm.find_iff.2 hm, D.mem_keys hm⟩

theorem goes_spec {key : ByteArray} {p : Nat} (ok : c.Ok) (hv : c.vol ≤ 1099511627776) (hm : (key, p) ∈ c.main.items) :
    Spec Tryz.prog G 103 [ptrV b, .string key, ptrV p] (SpO b c bm bl mp sv F) fun _ L' => L' = SpO b (c.goes key) bm bl mp sv F := by
  obtain ⟨hn, hl, hu0, hu1⟩ := ok.bound hv
  obtain ⟨hf, hk⟩ := item_find ok hm
  obtain ⟨hk1, hk2, hk3, hk4⟩ := ok.key key hk
  have hone := ok.one hk
  have hcb := Sp.costs_bound (k := key) (e := c.ent key) hk1 hk2
  obtain ⟨p', R, h1, h2, h3⟩ : ∃ p' R, c.main.find key = some p' ∧ c.main.items.Perm ((key, p') :: R) ∧ (c.main.delete key).items.Perm R := by
    rcases (ok.wm.delete hn key).2 with h | h
    · exact h
    · rw [hf] at h; cases h.1
  rw [hf] at h1
  obtain rfl := Option.some.inj h1
  refine Spec.exm (fun _ hw => sp_open h2 hw) ?_
  rintro vp -
  refine spec_of_run Tryz.func103 rfl rfl ?_
  refine run_seq ?_
  refine run_tail 10 (by kernel_rfl) (by kernel_rfl) ?_
  refine q_val (ev_move rfl) rfl ?_
  refine q_val (ev_nilCheck rfl) rfl ?_
  refine q_val (ev_fieldAddr0 6 rfl (by kernel_rfl)) rfl ?_
  refine q_val (ev_load rfl (by kernel_rfl)) rfl ?_
  refine q_val (ev_move rfl) rfl ?_
  refine q_val (ev_move rfl) rfl ?_
  refine q_callE rfl rfl (by kernel_rfl) (costs_spec (vp := vp) key hk1 hk2) ?_
  refine q_val (ev_subI rfl rfl (by omega)) rfl ?_
  refine q_val (ev_nilCheck rfl) rfl ?_
  refine q_val (ev_fieldAddr0 6 rfl (by kernel_rfl)) rfl ?_
  refine q_nil ?_
  refine k_store rfl rfl rfl rfl (by kernel_rfl) ?_
  refine run_seq ?_
  refine run_region ?_
  refine k_val (ev_move rfl) rfl ?_
  refine k_val (ev_nilCheck rfl) rfl ?_
  refine k_val (ev_fieldAddr0 7 rfl (by kernel_rfl)) rfl ?_
  refine k_val (ev_load rfl (by kernel_rfl)) rfl ?_
  refine k_val (ev_move rfl) rfl ?_
  refine k_call rfl rfl (by kernel_rfl) (delF_spec key ok.wm (by omega) hn) ?_
  rintro _ _ ⟨-, rfl⟩
  by_cases ha : 0 < (c.ent key).at_
  · refine run_seq ?_
    refine run_seq ?_
    refine run_region ?_
    refine k_val (ev_move rfl) rfl ?_
    refine k_val (ev_nilCheck rfl) rfl ?_
    refine k_val (ev_fieldAddr0 3 rfl (by kernel_rfl)) rfl ?_
    refine k_val (ev_load rfl (by kernel_rfl)) rfl ?_
    refine k_val (ev_bT (ev_gt rfl rfl) (by first | assumption | omega)) rfl ?_
    refine run_cond (t := true) rfl ?_
    refine run_region ?_
    refine k_val (ev_move rfl) rfl ?_
    refine k_val (ev_nilCheck rfl) rfl ?_
    refine k_val (ev_fieldAddr0 8 rfl (by kernel_rfl)) rfl ?_
    refine k_val (ev_load rfl (by kernel_rfl)) rfl ?_
    refine k_val (ev_move rfl) rfl ?_
    refine k_call rfl rfl (by kernel_rfl) (delF_spec key ok.wl (by omega) hl) ?_
    rintro _ _ ⟨-, rfl⟩
    refine run_region ?_
    refine k_val (ev_move rfl) rfl ?_
    refine k_val (ev_move rfl) rfl ?_
    refine OpK.mem (L' := SpR b { c with used := c.used - Sp.costs key (c.ent key), main := c.main.delete key, late := c.late.delete key } bm bl mp sv R c.ent F) ?_ ?_
    · exact fun _ hw => sat_pick [4, 1, 0, 2, 2] 2 hw
    refine OpK.perm (spR_perm h3.symm) ?_
    refine k_call rfl rfl (by kernel_rfl) (touch_spec (c := { c with used := c.used - Sp.costs key (c.ent key), main := c.main.delete key, late := c.late.delete key }) key) ?_
    rintro _ _ rfl
    refine end_spec Tryz.func103 rfl rfl ?_
    unfold Sp.goes
    rw [if_pos ha]
    rfl
  · refine run_seq ?_
    refine run_seq ?_
    refine run_region ?_
    refine k_val (ev_move rfl) rfl ?_
    refine k_val (ev_nilCheck rfl) rfl ?_
    refine k_val (ev_fieldAddr0 3 rfl (by kernel_rfl)) rfl ?_
    refine k_val (ev_load rfl (by kernel_rfl)) rfl ?_
    refine k_val (ev_bF (ev_gt rfl rfl) (by first | assumption | omega)) rfl ?_
    refine run_cond (t := false) rfl ?_
    refine run_skip ?_
    refine run_region ?_
    refine k_val (ev_move rfl) rfl ?_
    refine k_val (ev_move rfl) rfl ?_
    refine OpK.mem (L' := SpR b { c with used := c.used - Sp.costs key (c.ent key), main := c.main.delete key } bm bl mp sv R c.ent F) ?_ ?_
    · exact fun _ hw => sat_pick [3, 0, 2, 2, 2] 2 hw
    refine OpK.perm (spR_perm h3.symm) ?_
    refine k_call rfl rfl (by kernel_rfl) (touch_spec (c := { c with used := c.used - Sp.costs key (c.ent key), main := c.main.delete key }) key) ?_
    rintro _ _ rfl
    refine end_spec Tryz.func103 rfl rfl ?_
    unfold Sp.goes
    rw [if_neg ha]
    rfl
theorem expires_spec {key : ByteArray} {p : Nat} (ok : c.Ok) (hv : c.vol ≤ 1099511627776) (hm : (key, p) ∈ c.main.items) :
    Spec Tryz.prog G 61 [ptrV b, .string key, ptrV p] (SpO b c bm bl mp sv F) fun _ L' => ∃ sv', L' = SpO b (c.expires key) bm bl mp sv' F := by
  refine spec_of_run Tryz.func61 rfl rfl ?_
  refine run_seq ?_
  refine run_region ?_
  refine k_val (ev_move rfl) rfl ?_
  refine k_val (ev_move rfl) rfl ?_
  refine k_val (ev_move rfl) rfl ?_
  refine k_call rfl rfl (by kernel_rfl) (goes_spec ok hv hm) ?_
  rintro _ _ rfl
  have hvs : (c.goes key).steps.length ≤ 1099511627776 := by show c.steps.length ≤ _; unfold Sp.vol at hv; omega
  refine run_region ?_
  refine k_val (ev_move rfl) rfl ?_
  refine k_val (ev_move rfl) rfl ?_
  refine k_val (ev_nilCheck rfl) rfl ?_
  refine k_val (ev_fieldAddr0 10 rfl (by kernel_rfl)) rfl ?_
  refine k_val (ev_load rfl (by kernel_rfl)) rfl ?_
  refine k_val (ev_move rfl) rfl ?_
  refine k_val (ev_build1 [.int .i64 0, .string ByteArray.empty] [0, 1] (by kernel_rfl) (by kernel_rfl) rfl rfl rfl) rfl ?_
  refine k_buildSlice1 (e := 49) (B := 24) (z := #[.int .i64 0, .string ByteArray.empty]) rfl ⟨by kernel_rfl, by kernel_rfl, by kernel_rfl, by kernel_rfl⟩ rfl (by decide) (by decide) rfl ?_
  intro nb1
  refine k_append1 (e := 49) (B := 24) (z := #[.int .i64 0, .string ByteArray.empty]) 2 rfl rfl ⟨by kernel_rfl, by kernel_rfl, by kernel_rfl, by kernel_rfl⟩ rfl (by kernel_rfl) rfl rfl (by decide) (by omega) rfl ?_
  intro nv1 hnv1
  refine k_val (ev_nilCheck rfl) rfl ?_
  refine k_val (ev_fieldAddr0 10 rfl (by kernel_rfl)) rfl ?_
  refine k_store rfl rfl rfl (by assumption) (by kernel_rfl) ?_
  refine Run.mem (L' := SpO b (c.expires key) bm bl mp nv1 F) ?_ ?_
  · refine end_spec Tryz.func61 rfl rfl ?_
    exact ⟨nv1, rfl⟩
  · have e : stepsV (c.expires key).steps = stepsV (c.goes key).steps ++ (Value.agg #[.int .i64 1, .string key]).cells.toList := by
      show stepsV (c.steps ++ [(1, key)]) = stepsV c.steps ++ _
      simp [stepsV, stepV, Value.cells]
    have e2 : (c.expires key).steps.length = (c.goes key).steps.length + 1 := by
      show (c.steps ++ [(1, key)]).length = c.steps.length + 1
      simp
    unfold SpO SpR
    rw [e, e2]
    exact fun _ hw => sat_pick [2, 2, 2, 2, 0] 1 hw

theorem met_spec {key : ByteArray} (ok : c.Ok) (hv : c.vol ≤ 1099511627776) (hkey : key.size ≤ 9223372036854775806) :
    Spec Tryz.prog G 63 [ptrV b, .string key] (SpO b c bm bl mp sv F) fun v L' => ∃ sv', v = gotV (if c.there key then (c.met key).main.find key else none) ∧ L' = SpO b (c.met key) bm bl mp sv' F := by
  obtain ⟨hn, hl, hu0, hu1⟩ := ok.bound hv
  refine spec_of_run Tryz.func63 rfl rfl ?_
  refine run_seq ?_
  refine run_region ?_
  refine k_val (ev_assign rfl) rfl ?_
  refine k_val (ev_assign rfl) rfl ?_
  refine run_seq ?_
  refine run_seq ?_
  refine run_region ?_
  refine k_val (ev_move rfl) rfl ?_
  refine k_val (ev_eqNil rfl rfl (by kernel_rfl)) rfl ?_
  refine run_cond (t := false) rfl ?_
  refine run_skip ?_
  refine run_seq ?_
  refine run_region ?_
  refine k_val (ev_move rfl) rfl ?_
  refine k_val (ev_nilCheck rfl) rfl ?_
  refine k_val (ev_fieldAddr0 7 rfl (by kernel_rfl)) rfl ?_
  refine k_val (ev_load rfl (by kernel_rfl)) rfl ?_
  refine k_val (ev_move rfl) rfl ?_
  refine k_call rfl rfl (by kernel_rfl) (getF_spec key ok.wm hkey) ?_
  rintro _ _ ⟨rfl, rfl⟩
  have hvs : c.stepped.vol ≤ 1099511627776 := by rw [Sp.stepped_vol]; exact hv
  cases hf : c.main.find key with
  | none =>
    have hh : c.has key = false := by unfold Sp.has; rw [hf]; rfl
    have ht : c.there key = false := by unfold Sp.there; rw [hh]; rfl
    have hm : c.met key = c.stepped := by unfold Sp.met; rw [hh]; rfl
    refine k_val (ev_move rfl) rfl ?_
    refine k_val (ev_extract rfl rfl) rfl ?_
    refine k_val (ev_extract rfl rfl) rfl ?_
    refine k_val (ev_assign rfl) rfl ?_
    refine k_val (ev_assign rfl) rfl ?_
    refine run_seq ?_
    refine run_seq ?_
    refine run_region ?_
    refine k_val (ev_move rfl) rfl ?_
    refine k_val (ev_move rfl) rfl ?_
    refine k_skip rfl rfl rfl rfl ?_
    refine k_skip rfl rfl rfl rfl ?_
    refine k_skip rfl rfl rfl rfl ?_
    refine k_skip rfl rfl rfl rfl ?_
    refine k_skip rfl rfl rfl rfl ?_
    refine k_skip rfl rfl rfl rfl ?_
    refine k_val (ev_pickF rfl rfl) rfl ?_
    refine run_cond (t := false) rfl ?_
    refine run_skip ?_
    refine run_seq ?_
    refine run_region ?_
    refine k_val (ev_move rfl) rfl ?_
    refine k_val (ev_move rfl) rfl ?_
    refine k_val (ev_assign rfl) rfl ?_
    refine k_val (ev_assign rfl) rfl ?_
    refine Run.perm (L' := SpR b c.stepped bm bl mp sv c.main.items c.ent F) ?_ (by exact perm_pick [1, 0, 0, 0, 0] _)
    refine Run.perm ?_ (spR_perm ok.wm.step.2.symm)
    refine ret_spec Tryz.func63 rfl rfl ⟨sv, ?_, by rw [hm]⟩
    rw [ht]; rfl
  | some p =>
    have hh : c.has key = true := by unfold Sp.has; rw [hf]; rfl
    have hmem := ok.wm.step.1.find_iff.1 ((ok.wm.find_step key).trans hf)
    obtain ⟨R, hR⟩ := mem_split hmem
    refine OpK.perm (L' := SpR b c.stepped bm bl mp sv c.main.items c.ent F) (by exact perm_pick [1, 0, 0, 0, 0] _) ?_
    refine OpK.perm (spR_perm ok.wm.step.2.symm) ?_
    refine OpK.exm (fun _ hw => sp_open (c := c.stepped) hR hw) ?_
    rintro vp -
    refine k_val (ev_move rfl) rfl ?_
    refine k_val (ev_extract rfl rfl) rfl ?_
    refine k_val (ev_extract rfl rfl) rfl ?_
    refine k_val (ev_assign rfl) rfl ?_
    refine k_val (ev_assign rfl) rfl ?_
    refine run_seq ?_
    refine run_seq ?_
    refine run_region ?_
    refine k_val (ev_move rfl) rfl ?_
    refine k_val (ev_move rfl) rfl ?_
    refine k_guard rfl rfl rfl ?_
    refine k_val (ev_move rfl) rfl ?_
    refine k_guard rfl rfl rfl ?_
    refine k_val (ev_move rfl) rfl ?_
    refine k_guard rfl rfl rfl ?_
    refine k_val (ev_nilCheck rfl) rfl ?_
    refine k_guard rfl rfl rfl ?_
    refine k_val (ev_fieldAddr0 3 rfl (by kernel_rfl)) rfl ?_
    refine k_guard rfl rfl rfl ?_
    refine k_val (ev_load rfl (by kernel_rfl)) rfl ?_
    refine k_guard rfl rfl rfl ?_
    refine k_call rfl rfl (by kernel_rfl) (past_spec (c := c.stepped) (bm := bm) (bl := bl) (mp := mp) (sv := sv)) ?_
    rintro _ _ ⟨rfl, rfl⟩
    have hpe : c.stepped.past (c.stepped.ent key).at_ = c.past (c.ent key).at_ := rfl
    rw [hpe]
    cases hp : c.past (c.ent key).at_ with
    | true =>
      have ht : c.there key = false := by unfold Sp.there; rw [hh, hp]; rfl
      have hm : c.met key = c.stepped.expires key := by unfold Sp.met; rw [hh, hp]; rfl
      refine k_val (ev_pickT rfl rfl) rfl ?_
      refine run_cond (t := true) rfl ?_
      refine run_seq ?_
      refine run_region ?_
      refine k_val (ev_move rfl) rfl ?_
      refine k_val (ev_move rfl) rfl ?_
      refine k_val (ev_move rfl) rfl ?_
      refine OpK.mem (fun _ hw => sp_shut (c := c.stepped) hR hw) ?_
      refine k_call rfl rfl (by kernel_rfl) (expires_spec ok.stepped hvs hmem) ?_
      rintro _ _ ⟨sv', rfl⟩
      refine run_seq ?_
      refine run_region ?_
      refine k_val (ev_assign rfl) rfl ?_
      refine k_val (ev_assign rfl) rfl ?_
      refine ret_spec Tryz.func63 rfl rfl ⟨sv', ?_, by rw [hm]⟩
      rw [ht]; rfl
    | false =>
      have ht : c.there key = true := by unfold Sp.there; rw [hh, hp]; rfl
      have hm : c.met key = c.stepped := by unfold Sp.met; rw [hh, hp]; rfl
      refine k_val (ev_pickT rfl rfl) rfl ?_
      refine run_cond (t := false) rfl ?_
      refine run_skip ?_
      refine run_seq ?_
      refine run_region ?_
      refine k_val (ev_move rfl) rfl ?_
      refine k_val (ev_move rfl) rfl ?_
      refine k_val (ev_assign rfl) rfl ?_
      refine k_val (ev_assign rfl) rfl ?_
      refine Run.mem ?_ (fun _ hw => sp_shut (c := c.stepped) hR hw)
      refine ret_spec Tryz.func63 rfl rfl ⟨sv, ?_, by rw [hm]⟩
      rw [ht, if_pos rfl, hm]
      show _ = gotV (c.main.step.find key)
      rw [ok.wm.find_step, hf]; rfl
end
end Go.PS
