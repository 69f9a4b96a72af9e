/-
  The keyspace's Put, walked.
  Conditions: each contract's own.
-/
import Derived.Test.YtopkabhgkhjecaaGreatSpaceX
namespace Go.PS
open Go Go.Proofs
set_option maxRecDepth 10000

section
variable {G : World} {L F : List HP} {b bm bl mp : Nat} {c : Sp Nat} {sv : Value} {s : Sp Unit}

theorem sp_front {X : HP} : (SpO b c bm bl mp sv (X :: F)).Perm (X :: SpO b c bm bl mp sv F) := front5 List.perm_middle
theorem ents_other {R : List (ByteArray × Nat)} {ent : ByteArray → PE} {key : ByteArray} {e : PE} (h : key ∉ R.map (·.1)) : entsL R (fun k => if k = key then e else ent k) = entsL R ent := by
  unfold entsL
  refine List.map_congr_left fun x hx => ?_
  have : x.1 ≠ key := fun h' => h (List.mem_map.2 ⟨x, hx, h'⟩)
  simp only [if_neg this]
def ptrO (o : Option Nat) : Value := match o with
  | some p => ptrV p
  | none => .pointer none
theorem gotV_eq (o : Option Nat) : gotV o = .tuple #[ptrO o, .bool o.isSome] := by cases o <;> rfl
/-- A new entry, laid under its key. -/
theorem new_shut {w : World} {d d1 : Sp Nat} {key : ByteArray} {nb vp : Nat} {e1 : PE} (wf : d.main.WF) (hn : d.main.n ≤ 1099511627776) (hk : key.size ≤ 1048576)
    (hw : Sat G w (Blk nb (.cells (entCells vp e1) tyEnt (0, 0)) :: Blk vp (.cells #[.iface tyText (.string e1.text)] tyVal (0, 0)) :: SpR b d1 bm bl mp sv d.main.items d.ent F)) :
    Sat G w (SpR b d1 bm bl mp sv (d.main.set key (fun _ => nb) nb).items (fun k => if k = key then e1 else d.ent k) F) := by
  have h1 := sat_mkEnt hw
  have hat : (fun k => if k = key then e1 else d.ent k) key = e1 := if_pos rfl
  rcases (wf.set hn key (fun _ => nb) nb (by omega)).2 with ⟨p, R, q1, q2, q3⟩ | ⟨q1, q2⟩
  · have hu := D.nodupP q2.symm wf.uniq
    simp only [List.map_cons, List.nodup_cons] at hu
    have h2 : Sat G w (EntA nb e1 :: EntA p (d.ent key) :: SpR b d1 bm bl mp sv R d.ent F) := h1.perm ((front5 (ents_open q2)).cons _)
    have h3 := h2.swap.tail
    refine h3.perm (front5 ?_).symm
    have := ents_open (F := F) (ent := fun k => if k = key then e1 else d.ent k) q3
    rw [ents_other hu.1] at this
    simp only [if_true] at this
    exact this
  · have hu : key ∉ d.main.items.map (·.1) := wf.find_none.1 q1
    refine h1.perm (front5 ?_).symm
    have := ents_open (F := F) (ent := fun k => if k = key then e1 else d.ent k) q2
    rw [ents_other hu] at this
    simp only [if_true] at this
    exact this
/-- From where the new entry is made on. -/
theorem putS_spec {key text : ByteArray} {vp : Nat} (ok : s.Ok) (hv : s.vol + 3 ≤ 1099511627776) (hkey : key.size ≤ 9223372036854775806) (htext : text.size ≤ 9223372036854775806) :
    Spec Tryz.prog G 52 [ptrV b, .string key, ptrV vp] (SpA b s :: Blk vp (.cells #[.iface tyText (.string text)] tyVal (0, 0)) :: F) fun _ L' =>
      L' = if 1048576 < key.size ∨ 1048576 < text.size then SpA b s :: Blk vp (.cells #[.iface tyText (.string text)] tyVal (0, 0)) :: F else SpA b (s.put key text ()) :: F := by
  refine Spec.exm (fun _ hw => sat_sp hw) ?_
  rintro ⟨c, bm, bl, mp, sv⟩ ⟨hs, hl⟩
  simp only at hs hl ⊢
  replace ok := okc ok hs
  replace hv : c.vol + 3 ≤ 1099511627776 := by rw [← hs] at hv; exact hv
  have hm := ok.met (by omega) key
  have hlm := hl.met ok (by omega) key
  subst hs
  let V : HP := Blk vp (.cells #[.iface tyText (.string text)] tyVal (0, 0))
  refine Spec.perm (L' := V :: SpO b c bm bl mp sv F) sp_front ?_
  refine spec_of_run Tryz.func52 rfl rfl ?_
  refine run_seq ?_
  refine run_region ?_
  refine k_val (ev_assign rfl) rfl ?_
  refine run_seq ?_
  refine run_seq ?_
  refine run_region ?_
  refine k_val (ev_move rfl) rfl ?_
  refine k_val (ev_eqNil rfl rfl (by kernel_rfl)) rfl ?_
  refine k_val (ev_move rfl) rfl ?_
  refine k_guard rfl rfl rfl ?_
  refine k_val (ev_move rfl) rfl ?_
  refine k_guard rfl rfl rfl ?_
  refine k_val (ev_eqNil rfl rfl (by kernel_rfl)) rfl ?_
  refine k_val (ev_pickF rfl rfl) rfl ?_
  refine run_cond (t := false) rfl ?_
  refine run_skip ?_
  refine run_seq ?_
  refine run_seq ?_
  refine run_region ?_
  refine k_val (ev_move rfl) rfl ?_
  refine k_call rfl rfl (by kernel_rfl) (astext_spec (s := text)) ?_
  rintro _ _ ⟨rfl, rfl⟩
  by_cases hlong : 1048576 < key.size ∨ 1048576 < text.size
  · rw [if_pos hlong]
    have hmax : (if (text.size : Int) > key.size then (text.size : Int) else key.size) > 1048576 := by split <;> omega
    refine k_val (ev_move rfl) rfl ?_
    refine k_val (ev_extract rfl rfl) rfl ?_
    refine k_val (ev_extract rfl rfl) rfl ?_
    refine k_val (ev_assign rfl) rfl ?_
    refine k_val (ev_assign rfl) rfl ?_
    refine run_seq ?_
    refine run_region ?_
    refine k_val (ev_move rfl) rfl ?_
    refine k_val (ev_lenString rfl (by kernel_rfl)) rfl ?_
    refine k_val (ev_move rfl) rfl ?_
    refine k_val (ev_lenString rfl (by kernel_rfl)) rfl ?_
    refine k_val (ev_maxI rfl rfl) rfl ?_
    refine k_val (ev_bT (ev_gt rfl rfl) (by first | assumption | omega)) rfl ?_
    refine run_cond (t := true) rfl ?_
    refine run_seq ?_
    refine run_region ?_
    refine k_val (ev_assign rfl) rfl ?_
    refine Run.mem (L' := SpA b (c.map nil1) :: V :: F) (ret_spec Tryz.func52 rfl rfl rfl) (fun w hw => sat_mkSp hl (hw.perm sp_front.symm))
  · rw [if_neg hlong]
    have hmax : ¬ (if (text.size : Int) > key.size then (text.size : Int) else key.size) > 1048576 := by split <;> omega
    have hk20 : key.size ≤ 1048576 := by omega
    have ht20 : text.size ≤ 1048576 := by omega
    clear hlong hkey htext
    refine k_val (ev_move rfl) rfl ?_
    refine k_val (ev_extract rfl rfl) rfl ?_
    refine k_val (ev_extract rfl rfl) rfl ?_
    refine k_val (ev_assign rfl) rfl ?_
    refine k_val (ev_assign rfl) rfl ?_
    refine run_seq ?_
    refine run_region ?_
    refine k_val (ev_move rfl) rfl ?_
    refine k_val (ev_lenString rfl (by kernel_rfl)) rfl ?_
    refine k_val (ev_move rfl) rfl ?_
    refine k_val (ev_lenString rfl (by kernel_rfl)) rfl ?_
    refine k_val (ev_maxI rfl rfl) rfl ?_
    refine k_val (ev_bF (ev_gt rfl rfl) (by first | assumption | omega)) rfl ?_
    refine run_cond (t := false) rfl ?_
    refine run_skip ?_
    refine run_seq ?_
    refine run_region ?_
    refine k_val (ev_move rfl) rfl ?_
    refine k_val (ev_move rfl) rfl ?_
    refine OpK.perm (L' := SpO b c bm bl mp sv (V :: F)) sp_front.symm ?_
    refine k_call rfl rfl (by kernel_rfl) (met_spec ok (by omega) (by omega)) ?_
    rintro _ _ ⟨sv', rfl, rfl⟩
    refine RunOps.perm (L' := V :: SpO b (c.met key) bm bl mp sv' F) sp_front ?_
    have hg : (c.map nil1).put key text () = ((c.put key text 0)).map nil1 := by rw [show () = nil1 0 from rfl, Sp.map_put]
    rw [hg]
    clear hg
    have hd : ∃ d, d = (if c.there key then (c.met key).unput key else c.met key) := ⟨_, rfl⟩
    obtain ⟨d, hd⟩ := hd
    have hsome : (if c.there key = true then (c.met key).main.find key else none).isSome = c.there key := by
      cases ht : c.there key with
      | false => rfl
      | true => obtain ⟨p, hp, _⟩ := there_find ok (by omega) ht; rw [if_pos rfl, hp]; rfl
    rw [gotV_eq, hsome]
    generalize hpo : ptrO (if c.there key = true then (c.met key).main.find key else none) = po
    refine k_val (ev_move rfl) rfl ?_
    refine k_val (ev_extract rfl rfl) rfl ?_
    refine k_val (ev_extract rfl rfl) rfl ?_
    refine k_val (ev_assign rfl) rfl ?_
    refine k_val (ev_assign rfl) rfl ?_
    refine run_seq ?_
    refine run_seq ?_
    refine run_region ?_
    refine k_val (ev_move rfl) rfl ?_
    refine k_call rfl rfl (by kernel_rfl) (empty_spec (s := text)) ?_
    rintro _ _ ⟨rfl, rfl⟩
    refine run_cond (t := false) rfl ?_
    refine run_skip ?_
    refine run_seq ?_
    refine run_seq ?_
    refine run_region ?_
    refine k_val (ev_move rfl) rfl ?_
    refine run_cut (κ := Unit) (fun _ => True) (fun _ => [(0, ptrV b), (1, .string key), (2, ptrV vp)]) (fun _ => V :: SpO b d bm bl mp sv' F) ?_ ?_
    · intro _ _
      have hd2 : d.main = (c.met key).main ∧ d.ent = (c.met key).ent ∧ d.steps = (c.met key).steps := by
        subst hd
        split <;> exact ⟨rfl, rfl, rfl⟩
      have hp2 := ok.put (by omega) 0 hk20 ht20
      have hlp := hl.put (text := text) ok (by omega) 0 hk20
      have hput : c.put key text 0 = ((d.lay key text 0).use key).touch key := by subst hd; rfl
      have hdm : d.main.WF ∧ d.main.n ≤ 1099511627776 := by rw [hd2.1]; exact ⟨hm.1.wm, (hm.1.bound (by omega)).1⟩
      obtain ⟨hn2, hld2, hu2, hu3⟩ := hp2.1.bound (by omega)
      refine run_seq ?_
      refine run_region ?_
      refine k_val (ev_move rfl) rfl ?_
      refine k_val (ev_move rfl) rfl ?_
      refine k_call rfl rfl (by kernel_rfl) (cost_spec (s := text)) ?_
      rintro _ _ ⟨rfl, rfl⟩
      refine k_val (ev_build1 [.pointer none, .int .i64 0, .int .u64 0, .int .i64 0] [0, 1] (by kernel_rfl) (by kernel_rfl) rfl rfl rfl) rfl ?_
      refine k_boxAgg rfl rfl ?_
      intro nb1
      refine k_val (ev_assign rfl) rfl ?_
      refine run_seq ?_
      refine run_region ?_
      refine k_val (ev_move rfl) rfl ?_
      refine k_val (ev_nilCheck rfl) rfl ?_
      refine k_val (ev_fieldAddr0 7 rfl (by kernel_rfl)) rfl ?_
      refine k_val (ev_load rfl (by kernel_rfl)) rfl ?_
      refine k_val (ev_move rfl) rfl ?_
      refine k_val (ev_move rfl) rfl ?_
      refine k_call rfl rfl (by kernel_rfl) (setF_spec key nb1 hdm.1 (by omega) hdm.2) ?_
      rintro _ _ ⟨-, rfl⟩
      refine run_seq ?_
      refine run_tail 10 (by kernel_rfl) (by kernel_rfl) ?_
      refine q_val (ev_move rfl) rfl ?_
      refine q_val (ev_nilCheck rfl) rfl ?_
      refine q_val (ev_fieldAddr0 6 rfl (by kernel_rfl)) rfl ?_
      refine q_val (ev_load rfl (by kernel_rfl)) rfl ?_
      refine q_val (ev_move rfl) rfl ?_
      refine q_val (ev_move rfl) rfl ?_
      refine q_callE rfl rfl (by kernel_rfl) (costs_spec (vp := vp) (e := ⟨text, 0, 0⟩) key hk20 ht20) ?_
      have hused : (c.put key text 0).used = d.used + Sp.costs key ⟨text, 0, 0⟩ := by rw [hput]; rfl
      refine q_val (ev_addI rfl rfl (by omega)) rfl ?_
      refine q_val (ev_nilCheck rfl) rfl ?_
      refine q_val (ev_fieldAddr0 6 rfl (by kernel_rfl)) rfl ?_
      refine q_nil ?_
      refine k_store rfl rfl rfl rfl (by kernel_rfl) ?_
      refine run_seq ?_
      refine run_region ?_
      refine k_val (ev_move rfl) rfl ?_
      refine k_val (ev_move rfl) rfl ?_
      refine OpK.perm (L' := Blk b (.cells (spCells { d with main := d.main.set key (fun _ => nb1) nb1, used := d.used + Sp.costs key ⟨text, 0, 0⟩ } bm bl mp sv') tySp (0, 0)) :: Blk nb1 (.cells (entCells vp ⟨text, 0, 0⟩) tyEnt (0, 0)) :: V :: DictA bm (d.main.set key (fun _ => nb1) nb1) :: DictA bl d.late :: SetAt mp d.touched :: OwnSl 49 2 d.steps.length sv' (stepsV d.steps) :: (entsL d.main.items d.ent ++ F)) (by exact perm_pick [3, 1, 1, 0, 0, 0, 0] _) ?_
      refine k_call rfl rfl (by kernel_rfl) (use_spec (c := { d with main := d.main.set key (fun _ => nb1) nb1, used := d.used + Sp.costs key ⟨text, 0, 0⟩ }) (e := ⟨text, 0, 0⟩)) ?_
      rintro _ _ rfl
      refine run_seq ?_
      refine run_region ?_
      refine k_val (ev_move rfl) rfl ?_
      refine k_val (ev_move rfl) rfl ?_
      have hent : ((d.lay key text nb1).use key).ent = fun k => if k = key then ⟨text, IntKind.u64.wrap (d.uses + 1), 0⟩ else d.ent k := by
        funext k
        by_cases e : k = key
        · subst e
          have h1 : ((d.lay k text nb1).use k).ent k = { (d.lay k text nb1).ent k with stamp := IntKind.u64.wrap (d.uses + 1) } := if_pos rfl
          have h2 : (d.lay k text nb1).ent k = ⟨text, 0, 0⟩ := if_pos rfl
          rw [h1, h2, if_pos rfl]
        · show (if k = key then _ else (if k = key then _ else d.ent k)) = _
          rw [if_neg e, if_neg e, if_neg e]
      refine OpK.mem (L' := SpO b ((d.lay key text nb1).use key) bm bl mp sv' F) ?_ ?_
      · intro w hw
        have h1 := new_shut (w := w) (G := G) (d := d) (d1 := (d.lay key text nb1).use key) (key := key) (nb := nb1) (vp := vp) (e1 := ⟨text, IntKind.u64.wrap (d.uses + 1), 0⟩) (b := b) (bm := bm) (bl := bl) (mp := mp) (sv := sv') (F := F) hdm.1 hdm.2 hk20
        unfold SpO
        rw [hent]
        refine h1 ?_
        clear h1
        revert w; exact fun _ hw => sat_pick [1, 1, 0, 0, 0, 0, 0] 0 hw
      refine k_call rfl rfl (by kernel_rfl) (touch_spec (c := (d.lay key text nb1).use key) key) ?_
      rintro _ _ rfl
      refine run_seq ?_
      refine run_region ?_
      refine k_val (ev_assign rfl) rfl ?_
      have hfin : (c.put key text 0).map nil1 = (((d.lay key text nb1).use key).touch key).map nil1 := by
        rw [← Sp.map_put, show nil1 0 = nil1 nb1 from rfl, Sp.map_put]
        subst hd; rfl
      have hlf : (((d.lay key text nb1).use key).touch key).Link := by
        have := hl.put (text := text) ok (by omega) nb1 hk20
        subst hd; exact this
      rw [hfin]
      exact Run.mem (L' := SpA b ((((d.lay key text nb1).use key).touch key).map nil1) :: F) (ret_spec Tryz.func52 rfl rfl rfl) (fun w hw => sat_mkSp (bm := bm) (bl := bl) (mp := mp) (sv := sv') hlf hw)
    intro out
    cases ht : c.there key with
    | false =>
      rw [ht] at hd
      refine run_cond (t := false) rfl ?_
      refine run_skip ?_
      subst hd
      refine out () _ trivial ?_
      exact ⟨rfl, rfl, rfl, trivial⟩
    | true =>
      obtain ⟨p, hp, hmem⟩ := there_find ok (by omega) ht
      rw [ht, if_pos rfl] at hd
      rw [ht, if_pos rfl, hp] at hpo
      subst hpo
      have hvm : (c.met key).vol ≤ 1099511627776 := by omega
      obtain ⟨hn, hld, hu0, hu1⟩ := hm.1.bound hvm
      obtain ⟨hk1, hk2, hk3, hk4⟩ := hm.1.key key (D.mem_keys hmem)
      have hone := hm.1.one (D.mem_keys hmem)
      have hcb := Sp.costs_bound (k := key) (e := (c.met key).ent key) hk1 hk2
      obtain ⟨R, hR⟩ := mem_split hmem
      subst hd
      generalize c.met key = d at *
      refine run_cond (t := true) rfl ?_
      refine Run.exm (fun _ hw => sp_open (F := V :: F) (c := d) hR (hw.perm sp_front.symm)) ?_
      rintro vq -
      refine run_seq ?_
      refine run_tail 10 (by kernel_rfl) (by kernel_rfl) ?_
      refine q_val (ev_move rfl) rfl ?_
      refine q_val (ev_nilCheck rfl) rfl ?_
      refine q_val (ev_fieldAddr0 6 rfl (by kernel_rfl)) rfl ?_
      refine q_val (ev_load rfl (by kernel_rfl)) rfl ?_
      refine q_val (ev_move rfl) rfl ?_
      refine q_val (ev_move rfl) rfl ?_
      refine q_callE rfl rfl (by kernel_rfl) (costs_spec (vp := vq) (e := d.ent key) key hk1 hk2) ?_
      refine q_val (ev_subI rfl rfl (by omega)) rfl ?_
      refine q_val (ev_nilCheck rfl) rfl ?_
      refine q_val (ev_fieldAddr0 6 rfl (by kernel_rfl)) rfl ?_
      refine q_nil ?_
      refine k_store rfl rfl rfl rfl (by kernel_rfl) ?_
      refine run_seq ?_
      refine run_region ?_
      refine k_val (ev_move rfl) rfl ?_
      refine k_val (ev_nilCheck rfl) rfl ?_
      refine k_val (ev_fieldAddr0 3 rfl (by kernel_rfl)) rfl ?_
      refine k_val (ev_load rfl (by kernel_rfl)) rfl ?_
      refine k_val (ev_gt rfl rfl) rfl ?_
      by_cases ha : 0 < (d.ent key).at_
      · have hun : d.unput key = { d with used := d.used - Sp.costs key (d.ent key), late := d.late.delete key } := by unfold Sp.unput; rw [if_pos ha]
        refine run_ifT rfl (by first | assumption | omega) ?_
        refine run_region ?_
        refine k_val (ev_move rfl) rfl ?_
        refine k_val (ev_nilCheck rfl) rfl ?_
        refine k_val (ev_fieldAddr0 8 rfl (by kernel_rfl)) rfl ?_
        refine k_val (ev_load rfl (by kernel_rfl)) rfl ?_
        refine k_val (ev_move rfl) rfl ?_
        refine k_call rfl rfl (by kernel_rfl) (delF_spec key hm.1.wl (by omega) hld) ?_
        rintro _ _ ⟨-, rfl⟩
        refine Run.mem (out () _ trivial ?_) ?_
        · exact ⟨rfl, rfl, rfl, trivial⟩
        rw [hun]
        intro w hw
        refine (sp_shut (F := V :: F) (c := { d with used := d.used - Sp.costs key (d.ent key), late := d.late.delete key }) (vp := vq) hR ?_).perm sp_front
        revert w; exact fun _ hw => sat_pick [1, 1, 1, 1, 0, 0, 0] 0 hw
      · have hun : d.unput key = { d with used := d.used - Sp.costs key (d.ent key) } := by unfold Sp.unput; rw [if_neg ha]
        refine run_ifF rfl (by first | assumption | omega) ?_
        refine run_skip ?_
        refine Run.mem (out () _ trivial ?_) ?_
        · exact ⟨rfl, rfl, rfl, trivial⟩
        rw [hun]
        intro w hw
        exact (sp_shut (F := V :: F) (c := { d with used := d.used - Sp.costs key (d.ent key) }) (vp := vq) hR hw).perm sp_front
end
end Go.PS
