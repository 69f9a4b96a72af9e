/-
  The source of draws, walked.
  Conditions: each contract's own.
-/
import Derived.Test.YtopkabhgkhjecaaGreatPoolX
namespace Go.PS
open Go Go.Proofs Go.Shelf
set_option maxRecDepth 10000

abbrev u64V (x : Int) : List Value := [.int .u64 x]
/-- The draws still to come, behind a slice. -/
def DrawSl (v : Value) (ds : List Int) : HP := fun h =>
  (ds = [] ∧ (∃ a c, v = .slice a 0 c) ∧ ∀ i, h i = none) ∨
  (∃ b off cap C, v = .slice (some ⟨b, off, none⟩) ds.length cap ∧ ds.length ≤ cap ∧ off + cap ≤ C.size ∧ (∀ i x, ds[i]? = some x → C[off + i]? = some (.int .u64 x)) ∧ Blk b (.cells C 22 (0, 0)) h)
theorem sat_drawNil {G w : World} {L : List HP} {a : Option Addr} {c : Nat} (H : Sat G w L) : Sat G w (DrawSl (.slice a 0 c) [] :: L) :=
  H.mono fun k hk => ⟨fun _ => none, k, .inl ⟨rfl, ⟨a, c, rfl⟩, fun _ => rfl⟩, hk, fun _ => .inl rfl, by funext i; rfl⟩
theorem sat_drawBlk {G w : World} {L : List HP} {b off cap n : Nat} {C : Array Value} {ds : List Int} (hn : n = ds.length) (h1 : ds.length ≤ cap) (h2 : off + cap ≤ C.size) (h3 : ∀ i x, ds[i]? = some x → C[off + i]? = some (.int .u64 x)) (H : Sat G w (Blk b (.cells C 22 (0, 0)) :: L)) :
    Sat G w (DrawSl (.slice (some ⟨b, off, none⟩) n cap) ds :: L) := by subst hn; exact H.weak fun _ h => .inr ⟨b, off, cap, C, rfl, h1, h2, h3, h⟩
theorem sat_drawCases {G w : World} {L : List HP} {v : Value} {ds : List Int} (H : Sat G w (DrawSl v ds :: L)) :
    (ds = [] ∧ (∃ a c, v = .slice a 0 c) ∧ Sat G w L) ∨ (∃ b off cap C, v = .slice (some ⟨b, off, none⟩) ds.length cap ∧ ds.length ≤ cap ∧ off + cap ≤ C.size ∧ (∀ i x, ds[i]? = some x → C[off + i]? = some (.int .u64 x)) ∧ Sat G w (Blk b (.cells C 22 (0, 0)) :: L)) := by
  obtain ⟨k, ⟨a, l, ha, hl, hal, rfl⟩, h2⟩ := H.mem
  rcases ha with ⟨h1, h3, _⟩ | ⟨b, off, cap, C, h1, h3, h4, h5, h6⟩
  · exact .inl ⟨h1, h3, H.tail⟩
  · exact .inr ⟨b, off, cap, C, h1, h3, h4, h5, H.os, H.tape, H.output, H.gone, _, ⟨a, l, h6, hl, hal, rfl⟩, h2⟩
/-- A source. -/
def SrcA (b : Nat) (ds : List Int) : HP := fun h => ∃ v, Star [Blk b (.cells #[v] 98 (0, 0)), DrawSl v ds] h
theorem sat_mkSrc {G w : World} {L : List HP} {b : Nat} {v : Value} {ds : List Int} (H : Sat G w (Blk b (.cells #[v] 98 (0, 0)) :: DrawSl v ds :: L)) : Sat G w (SrcA b ds :: L) :=
  (Sat.group (L := [_, _]) H).weak fun _ h => ⟨v, h⟩
theorem sat_src {G w : World} {L : List HP} {b : Nat} {ds : List Int} (H : Sat G w (SrcA b ds :: L)) : ∃ v, Sat G w (Blk b (.cells #[v] 98 (0, 0)) :: DrawSl v ds :: L) := by
  unfold SrcA at H
  obtain ⟨v, H⟩ := H.ex
  exact ⟨v, H.ungroup⟩
theorem sat_drawOwn {G w : World} {L : List HP} {v : Value} {ds : List Int} (H : Sat G w (OwnSl 22 1 ds.length v (ds.flatMap u64V) :: L)) : Sat G w (DrawSl v ds :: L) := by
  rcases sat_ownCases H with ⟨h1, h2, h3, h4⟩ | ⟨b, cap, rest, h1, h2, h3, h4, h5⟩
  · have : ds = [] := List.length_eq_zero_iff.1 h2
    subst this; subst h1
    exact sat_drawNil h4
  · subst h1
    refine sat_drawBlk rfl h2 (by simp only [List.size_toArray, h4]; omega) (fun i x hx => ?_) h5
    have hi : i < ds.length := (List.getElem?_eq_some_iff.1 hx).1
    have e : ∀ l : List Int, l.flatMap u64V = l.map fun x => .int .u64 x := fun l => by
      induction l with
      | nil => rfl
      | cons a l ih => rw [List.flatMap_cons, ih]; rfl
    rw [e]
    rw [e] at h3
    simp only [List.getElem?_toArray, Nat.zero_add]
    rw [List.getElem?_append_left (by simpa using hi), List.getElem?_map, hx]; rfl

section
variable {G : World} {L F : List HP} {b : Nat} {ds : List Int}

theorem left_nil : Spec Tryz.prog G 22 [.pointer none] L fun v L' => v = .int .i64 0 ∧ L' = L := by
  refine spec_of_run Tryz.func22 rfl rfl ?_
  refine run_seq ?_
  refine run_region ?_
  refine k_val (ev_assign rfl) rfl ?_
  refine run_seq ?_
  refine run_seq ?_
  refine run_region ?_
  refine k_val (ev_move rfl) rfl ?_
  refine k_val (ev_eqNil rfl rfl (by kernel_rfl)) rfl ?_
  refine run_cond (t := true) rfl ?_
  refine run_seq ?_
  refine run_region ?_
  refine k_val (ev_assign rfl) rfl ?_
  exact ret_spec Tryz.func22 rfl rfl ⟨rfl, rfl⟩
theorem sat_srcV {w : World} (H : Sat G w (SrcA b ds :: L)) : ∃ z : Option Addr × Nat, True ∧ Sat G w (Blk b (.cells #[.slice z.1 ds.length z.2] 98 (0, 0)) :: DrawSl (.slice z.1 ds.length z.2) ds :: L) := by
  obtain ⟨v, h1⟩ := sat_src H
  rcases sat_drawCases h1.swap with ⟨rfl, ⟨a, c, rfl⟩, h2⟩ | ⟨b', off, cap, C, rfl, _⟩
  · exact ⟨(a, c), trivial, h1⟩
  · exact ⟨(_, cap), trivial, h1⟩
theorem sat_srcB {w : World} (hd : ds ≠ []) (H : Sat G w (SrcA b ds :: L)) : ∃ z : Nat × Nat × Nat × Array Value, (ds.length ≤ z.2.2.1 ∧ z.2.1 + z.2.2.1 ≤ z.2.2.2.size ∧ (∀ i x, ds[i]? = some x → z.2.2.2[z.2.1 + i]? = some (.int .u64 x))) ∧
    Sat G w (Blk b (.cells #[.slice (some ⟨z.1, z.2.1, none⟩) ds.length z.2.2.1] 98 (0, 0)) :: Blk z.1 (.cells z.2.2.2 22 (0, 0)) :: L) := by
  obtain ⟨v, h1⟩ := sat_src H
  rcases sat_drawCases h1.swap with ⟨h, _⟩ | ⟨b', off, cap, C, rfl, h2, h3, h4, h5⟩
  · exact absurd h hd
  · exact ⟨(b', off, cap, C), ⟨h2, h3, h4⟩, h5.swap⟩
theorem left_spec : Spec Tryz.prog G 22 [ptrV b] (SrcA b ds :: F) fun v L' => v = .int .i64 ds.length ∧ L' = SrcA b ds :: F := by
  refine Spec.exm (fun w hw => sat_srcV hw) ?_
  rintro ⟨base, cap⟩ -
  simp only
  refine spec_of_run Tryz.func22 rfl rfl ?_
  refine run_seq ?_
  refine run_region ?_
  refine k_val (ev_assign rfl) rfl ?_
  refine run_seq ?_
  refine run_seq ?_
  refine run_region ?_
  refine k_val (ev_move rfl) rfl ?_
  refine k_val (ev_eqNil rfl rfl (by kernel_rfl)) rfl ?_
  refine run_cond (t := false) rfl ?_
  refine run_skip ?_
  refine run_seq ?_
  refine run_region ?_
  refine k_val (ev_move rfl) rfl ?_
  refine k_val (ev_nilCheck rfl) rfl ?_
  refine k_val (ev_fieldAddr0 0 rfl (by kernel_rfl)) rfl ?_
  refine k_val (ev_load rfl (by kernel_rfl)) rfl ?_
  refine k_val (ev_lenSlice (e := 22) rfl (by kernel_rfl)) rfl ?_
  refine k_val (ev_assign rfl) rfl ?_
  exact Run.mem (L' := SrcA b ds :: F) (ret_spec Tryz.func22 rfl rfl ⟨rfl, rfl⟩) (fun w hw => sat_mkSrc hw)
def nextD (ds : List Int) : Int := ds.headD 0
theorem next_spec : Spec Tryz.prog G 97 [ptrV b] (SrcA b ds :: F) fun v L' => v = .int .u64 (nextD ds) ∧ L' = SrcA b ds.tail :: F := by
  refine spec_of_run Tryz.func97 rfl rfl ?_
  refine run_seq ?_
  refine run_region ?_
  refine k_val (ev_assign rfl) rfl ?_
  refine run_seq ?_
  refine run_seq ?_
  refine run_region ?_
  refine k_val (ev_move rfl) rfl ?_
  refine k_call rfl rfl (by kernel_rfl) left_spec ?_
  rintro _ _ ⟨rfl, rfl⟩
  cases ds with
  | nil =>
    refine k_val (ev_eqI rfl rfl) rfl ?_
    refine run_cond (t := true) rfl ?_
    refine run_seq ?_
    refine run_region ?_
    refine k_val (ev_assign rfl) rfl ?_
    exact ret_spec Tryz.func97 rfl rfl ⟨rfl, rfl⟩
  | cons x t =>
    have hl : ((x :: t).length : Int) ≠ 0 := by simp only [List.length_cons]; omega
    refine RunOps.exm (fun _ hw => sat_srcB (by simp) hw) ?_
    rintro ⟨b', off, cap, C⟩ ⟨h1, h2, h3⟩
    simp only at h1 h2 h3 ⊢
    have hx : C[off + 0]? = some (.int .u64 x) := h3 0 x rfl
    have hpos : 0 < (x :: t).length := Nat.succ_pos _
    refine k_val (ev_bF (ev_eqI rfl rfl) (by first | assumption | omega)) rfl ?_
    refine run_cond (t := false) rfl ?_
    refine run_skip ?_
    refine run_seq ?_
    refine run_region ?_
    refine k_val (ev_move rfl) rfl ?_
    refine k_val (ev_nilCheck rfl) rfl ?_
    refine k_val (ev_fieldAddr0 0 rfl (by kernel_rfl)) rfl ?_
    refine k_val (ev_load rfl (by kernel_rfl)) rfl ?_
    refine k_val (ev_indexAddrO (e := 22) 1 rfl rfl (by first | assumption | omega) (by kernel_rfl) (by kernel_rfl)) rfl ?_
    refine k_val (ev_loadAt rfl (by assumption) (by kernel_rfl)) rfl ?_
    refine k_val (ev_assign rfl) rfl ?_
    refine run_seq ?_
    refine run_region ?_
    refine k_val (ev_move rfl) rfl ?_
    refine k_val (ev_move rfl) rfl ?_
    refine k_val (ev_nilCheck rfl) rfl ?_
    refine k_val (ev_fieldAddr0 0 rfl (by kernel_rfl)) rfl ?_
    refine k_val (ev_load rfl (by kernel_rfl)) rfl ?_
    refine k_val (ev_slice (e := 22) (l := 1) 1 rfl ⟨_, rfl⟩ rfl (by omega) (by omega) (by kernel_rfl) (by kernel_rfl)) rfl ?_
    refine k_val (ev_nilCheck rfl) rfl ?_
    refine k_val (ev_fieldAddr0 0 rfl (by kernel_rfl)) rfl ?_
    refine k_store rfl rfl rfl rfl (by kernel_rfl) ?_
    refine run_seq ?_
    refine run_region ?_
    refine k_val (ev_move rfl) rfl ?_
    refine k_val (ev_assign rfl) rfl ?_
    refine Run.mem (L' := SrcA b t :: F) (ret_spec Tryz.func97 rfl rfl ⟨rfl, rfl⟩) (fun w hw => ?_)
    by_cases hc : cap = 1
    · have ht : t = [] := by
        cases t with
        | nil => rfl
        | cons y u => simp only [List.length_cons] at h1; omega
      subst ht
      simp only [if_pos hc] at hw
      refine sat_mkSrc (v := .slice (some ⟨b', off, none⟩) 0 (cap - 1)) ?_
      exact (sat_drawNil hw.swap.tail).swap
    · simp only [if_neg hc] at hw
      refine sat_mkSrc (v := .slice (some ⟨b', off + 1 * 1, none⟩) t.length (cap - 1)) (Sat.swap ?_)
      refine sat_drawBlk (off := off + 1 * 1) (C := C) rfl ?_ ?_ ?_ hw.swap
      · simp only [List.length_cons] at h1; omega
      · omega
      · intro i y hy
        have := h3 (i + 1) y hy
        rwa [show off + 1 * 1 + i = off + (i + 1) by omega]

theorem clone64_nil {n c : Nat} : Spec Tryz.prog G 45 [.slice none n c] L fun v L' => v = .slice none 0 0 ∧ L' = L := by
  refine spec_of_run Tryz.func45 rfl rfl ?_
  refine run_seq ?_
  refine run_region ?_
  refine k_val (ev_assign rfl) rfl ?_
  refine run_seq ?_
  refine run_seq ?_
  refine run_region ?_
  refine k_val (ev_move rfl) rfl ?_
  refine k_val (ev_eqSliceNil (e := 22) rfl rfl (by kernel_rfl)) rfl ?_
  refine run_cond (t := true) rfl ?_
  refine run_seq ?_
  refine run_region ?_
  refine k_val (ev_assign rfl) rfl ?_
  exact ret_spec Tryz.func45 rfl rfl ⟨rfl, rfl⟩
theorem clone64_spec {b off cap : Nat} {C : Array Value} [hb : Reads G L b C] (hC : off + ds.length ≤ C.size) (h : ∀ i x, ds[i]? = some x → C[off + i]? = some (.int .u64 x)) (hn : ds.length ≤ 1099511627776) :
    Spec Tryz.prog G 45 [.slice (some ⟨b, off, none⟩) ds.length cap] L fun v L' => L' = OwnSl 22 1 ds.length v (ds.flatMap u64V) :: L := by
  refine spec_of_run Tryz.func45 rfl rfl ?_
  refine run_seq ?_
  refine run_region ?_
  refine k_val (ev_assign rfl) rfl ?_
  refine run_seq ?_
  refine run_seq ?_
  refine run_region ?_
  refine k_val (ev_move rfl) rfl ?_
  refine k_val (ev_eqSliceNil (e := 22) rfl rfl (by kernel_rfl)) rfl ?_
  refine run_cond (t := false) rfl ?_
  refine run_skip ?_
  refine run_seq ?_
  refine run_region ?_
  refine k_buildSlice0 (e := 22) (B := 8) (z := #[.int .u64 0]) ⟨by kernel_rfl, by kernel_rfl, by kernel_rfl, by kernel_rfl⟩ rfl ?_
  intro nb1
  refine RunOps.mem (L' := OwnSl 22 1 0 (.slice (some ⟨nb1, 0, none⟩) 0 0) [] :: L) (fun w hw => sat_ownBlk (rest := []) (Nat.le_refl _) rfl rfl hw) ?_
  refine k_val (ev_move rfl) rfl ?_
  have hX : (C.extract off (off + ds.length * 1)).toList = ds.flatMap u64V := by
    have e : ∀ l : List Int, l.flatMap u64V = l.map fun x => .int .u64 x := fun l => by
      induction l with
      | nil => rfl
      | cons a l ih => rw [List.flatMap_cons, ih]; rfl
    rw [e]
    apply List.ext_getElem?
    intro i
    rw [Array.getElem?_toList, Array.getElem?_extract, List.getElem?_map]
    by_cases hi : i < ds.length
    · rw [if_pos (by omega), h i ds[i] (List.getElem?_eq_getElem hi), List.getElem?_eq_getElem hi]; rfl
    · rw [if_neg (by omega), List.getElem?_eq_none (by omega)]; rfl
  refine k_append (e := 22) (B := 8) (n := 0) (m := ds.length) (v := .slice (some ⟨nb1, 0, none⟩) 0 0) (xs := []) (ys := ds.flatMap u64V) (z := #[.int .u64 0]) (L' := L) 25 rfl rfl ?_ ⟨by kernel_rfl, by kernel_rfl, by kernel_rfl, by kernel_rfl⟩ rfl (by kernel_rfl) ?_ ?_ (by decide) (by omega) rfl ?_
  · have := gives_slice (S := ⟨Tryz.prog, G, .fn 45 (fun e w' => ∃ v_1 L', (L' = OwnSl 22 1 ds.length v_1 (ds.flatMap u64V) :: L) ∧ e = .returned v_1 ∧ Sat G w' L'), 8, []⟩) (L := L) (b := b) (off := off) (m := ds.length) (mc := cap) (sz := 1) (c := C) (by omega)
    rw [hX] at this
    exact this
  · rw [← hX]; simp; omega
  · intro q hq
    obtain ⟨x, _, hx⟩ := List.mem_flatMap.1 hq
    simp only [List.mem_cons, List.not_mem_nil, or_false] at hx
    rw [hx]; rfl
  intro nv1 hnv1
  refine k_val (ev_assign rfl) rfl ?_
  refine Run.mem (L' := OwnSl 22 1 ds.length nv1 (ds.flatMap u64V) :: L) (ret_spec Tryz.func45 rfl rfl rfl) (fun w hw => ?_)
  simp only [Nat.zero_add, List.nil_append] at hw
  exact hw
theorem dnew_nil {n c : Nat} : Spec Tryz.prog G 10 [.slice none n c] L fun v L' => ∃ b, v = ptrV b ∧ L' = SrcA b [] :: L := by
  refine spec_of_run Tryz.func10 rfl rfl ?_
  refine run_seq ?_
  refine run_region ?_
  refine k_val (ev_assign rfl) rfl ?_
  refine run_seq ?_
  refine run_region ?_
  refine k_val (ev_move rfl) rfl ?_
  refine k_call rfl rfl (by kernel_rfl) clone64_nil ?_
  rintro _ _ ⟨rfl, rfl⟩
  refine k_val (ev_build1 [.slice none 0 0] [0] (by kernel_rfl) (by kernel_rfl) rfl rfl rfl) rfl ?_
  refine k_boxAgg rfl rfl ?_
  intro nb1
  refine k_val (ev_assign rfl) rfl ?_
  refine Run.mem (ret_spec Tryz.func10 rfl rfl ⟨_, rfl, rfl⟩) (fun w hw => sat_mkSrc (sat_drawNil hw).swap)
theorem clone64_zero {a : Addr} {c : Nat} : Spec Tryz.prog G 45 [.slice (some a) 0 c] L fun v L' => L' = OwnSl 22 1 0 v [] :: L := by
  refine spec_of_run Tryz.func45 rfl rfl ?_
  refine run_seq ?_
  refine run_region ?_
  refine k_val (ev_assign rfl) rfl ?_
  refine run_seq ?_
  refine run_seq ?_
  refine run_region ?_
  refine k_val (ev_move rfl) rfl ?_
  refine k_val (ev_eqSliceNil (e := 22) rfl rfl (by kernel_rfl)) rfl ?_
  refine run_cond (t := false) rfl ?_
  refine run_skip ?_
  refine run_seq ?_
  refine run_region ?_
  refine k_buildSlice0 (e := 22) (B := 8) (z := #[.int .u64 0]) ⟨by kernel_rfl, by kernel_rfl, by kernel_rfl, by kernel_rfl⟩ rfl ?_
  intro nb1
  refine RunOps.mem (L' := OwnSl 22 1 0 (.slice (some ⟨nb1, 0, none⟩) 0 0) [] :: L) (fun w hw => sat_ownBlk (rest := []) (Nat.le_refl _) rfl rfl hw) ?_
  refine k_val (ev_move rfl) rfl ?_
  refine k_append (e := 22) (B := 8) (n := 0) (m := 0) (v := .slice (some ⟨nb1, 0, none⟩) 0 0) (xs := []) (ys := []) (z := #[.int .u64 0]) (L' := L) 25 rfl rfl ⟨rfl, fun _ _ => rfl⟩ ⟨by kernel_rfl, by kernel_rfl, by kernel_rfl, by kernel_rfl⟩ rfl (by kernel_rfl) rfl (by simp) (by decide) (by omega) rfl ?_
  intro nv1 hnv1
  refine k_val (ev_assign rfl) rfl ?_
  refine Run.mem (L' := OwnSl 22 1 0 nv1 [] :: L) (ret_spec Tryz.func45 rfl rfl rfl) (fun w hw => ?_)
  simp only [Nat.zero_add, List.nil_append] at hw
  exact hw
/-- A slice of draws, handed in. -/
def DrawsIn (G : World) (L : List HP) (v : Value) (ds : List Int) : Prop :=
  (∃ n c, v = .slice none n c ∧ ds = []) ∨ (∃ a c, v = .slice (some a) 0 c ∧ ds = []) ∨ ∃ b off cap C, v = .slice (some ⟨b, off, none⟩) ds.length cap ∧ Reads G L b C ∧ off + ds.length ≤ C.size ∧ ∀ i x, ds[i]? = some x → C[off + i]? = some (.int .u64 x)
theorem dnew_spec {v : Value} (hi : DrawsIn G L v ds) (hn : ds.length ≤ 1099511627776) : Spec Tryz.prog G 10 [v] L fun v L' => ∃ b, v = ptrV b ∧ L' = SrcA b ds :: L := by
  rcases hi with ⟨n, c, rfl, rfl⟩ | ⟨a, c, rfl, rfl⟩ | ⟨b, off, cap, C, rfl, hb, hC, h⟩
  · exact dnew_nil
  · refine spec_of_run Tryz.func10 rfl rfl ?_
    refine run_seq ?_
    refine run_region ?_
    refine k_val (ev_assign rfl) rfl ?_
    refine run_seq ?_
    refine run_region ?_
    refine k_val (ev_move rfl) rfl ?_
    refine k_call rfl rfl (by kernel_rfl) clone64_zero ?_
    rintro u _ rfl
    refine RunOps.exm (fun _ hw => own_val hw) ?_
    rintro ⟨base, cp⟩ rfl
    simp only
    refine k_val (ev_build1 [.slice none 0 0] [0] (by kernel_rfl) (by kernel_rfl) rfl rfl rfl) rfl ?_
    refine k_boxAgg rfl rfl ?_
    intro nb1
    refine k_val (ev_assign rfl) rfl ?_
    refine Run.mem (ret_spec Tryz.func10 rfl rfl ⟨_, rfl, rfl⟩) (fun w hw => sat_mkSrc (sat_drawOwn hw.swap).swap)
  refine spec_of_run Tryz.func10 rfl rfl ?_
  refine run_seq ?_
  refine run_region ?_
  refine k_val (ev_assign rfl) rfl ?_
  refine run_seq ?_
  refine run_region ?_
  refine k_val (ev_move rfl) rfl ?_
  refine k_call rfl rfl (by kernel_rfl) (clone64_spec (b := b) hC h hn) ?_
  rintro u _ rfl
  refine RunOps.exm (fun _ hw => own_val hw) ?_
  rintro ⟨base, cp⟩ rfl
  simp only
  refine k_val (ev_build1 [.slice none 0 0] [0] (by kernel_rfl) (by kernel_rfl) rfl rfl rfl) rfl ?_
  refine k_boxAgg rfl rfl ?_
  intro nb1
  refine k_val (ev_assign rfl) rfl ?_
  refine Run.mem (ret_spec Tryz.func10 rfl rfl ⟨_, rfl, rfl⟩) (fun w hw => sat_mkSrc (sat_drawOwn hw.swap).swap)
end
end Go.PS
