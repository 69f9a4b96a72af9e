/-
  The table's functions, walked: what each makes of memory that holds a table.
  Conditions: each contract's own.
-/
import Derived.Test.YtopkabhgkhjecaaGreatAggs
import Derived.Test.YtopkabhgkhjecaaGreatDictL
import Derived.Test.YtopkabhgkhjecaaGreatProg
namespace Go.PS
open Go Go.Proofs
set_option maxRecDepth 10000

theorem take_succ_foldl {β : Type} (f : β → UInt8 → β) (b : β) (s : ByteArray) (k : Nat) (h : k < s.size) : (s.data.toList.take (k + 1)).foldl f b = f ((s.data.toList.take k).foldl f b) s[k] := by
  rw [List.take_succ_eq_append_getElem (by simpa using h), List.foldl_append]; rfl

/-- draw.Hash -/
theorem hash_spec {G : World} {L : List HP} (seed : Int) (s : ByteArray) (hs : s.size ≤ 9223372036854775806) : Spec Tryz.prog G 226 [.int .u64 seed, .string s] L fun v L' => v = .int .u64 (hashI seed s) ∧ L' = L := by
  refine spec_of_run Tryz.func226 rfl rfl ?_
  refine run_seq ?_
  refine run_region ?_
  refine k_val (ev_assign rfl) rfl ?_
  refine run_seq ?_
  refine run_region ?_
  refine k_val (ev_move rfl) rfl ?_
  refine k_val (ev_xor rfl rfl) rfl ?_
  refine k_val (ev_assign rfl) rfl ?_
  refine run_seq ?_
  refine run_seq ?_
  refine run_region ?_
  refine k_val (ev_move rfl) rfl ?_
  refine k_val (ev_lenString rfl (by kernel_rfl)) rfl ?_
  refine k_val (ev_move rfl) rfl ?_
  refine run_block (run_loopE (fun k => s.size - k) (fun k => k ≤ s.size) (fun k => [(1, .string s), (10, .int .i64 s.size), (11, .int .i64 k), (5, .int .u64 ((s.data.toList.take k).foldl hashStep (bitsI .xor .u64 14695981039346656037 seed)))]) (fun _ => L) 0 (Nat.zero_le _) ⟨rfl, rfl, rfl, rfl, trivial⟩ rfl ?_)
  intro k hk next
  by_cases h : k < s.size
  · refine run_seq ?_
    refine run_region ?_
    refine k_val (ev_bT (ev_lt rfl rfl) (by first | assumption | omega)) rfl ?_
    refine run_seq ?_
    refine run_cond (t := true) rfl ?_
    refine run_skip ?_
    refine run_seq ?_
    refine run_block ?_
    refine run_seq ?_
    refine run_region ?_
    refine k_val (ev_move rfl) rfl ?_
    refine k_val (ev_assign rfl) rfl ?_
    refine run_seq ?_
    refine run_region ?_
    refine k_val (ev_move rfl) rfl ?_
    refine k_val (ev_move rfl) rfl ?_
    refine k_val (ev_move rfl) rfl ?_
    refine k_val (ev_indexS rfl rfl (by omega) (by kernel_rfl)) rfl ?_
    refine k_val (ev_convI .u64 rfl (by kernel_rfl) (by kernel_rfl)) rfl ?_
    refine k_val (ev_xor rfl rfl) rfl ?_
    refine k_val (ev_assign rfl) rfl ?_
    refine run_region ?_
    refine k_val (ev_move rfl) rfl ?_
    refine k_val (ev_mul rfl rfl) rfl ?_
    refine k_val (ev_assign rfl) rfl ?_
    refine run_inBlock ?_
    refine run_region ?_
    refine k_val (ev_addN (n := 1) rfl rfl rfl rfl (by omega)) rfl ?_
    refine k_val (ev_move rfl) rfl ?_
    refine next (k + 1) _ (by omega) (by omega) ⟨rfl, rfl, rfl, ?_, trivial⟩
    rw [take_succ_foldl _ _ _ _ h]; rfl
  · refine run_seq ?_
    refine run_region ?_
    refine k_val (ev_bF (ev_lt rfl rfl) (by first | assumption | omega)) rfl ?_
    refine run_seq ?_
    refine run_cond (t := false) rfl ?_
    refine run_exit rfl ?_
    refine run_seq ?_
    refine run_region ?_
    refine k_val (ev_move rfl) rfl ?_
    refine k_val (ev_move rfl) rfl ?_
    refine k_val (ev_shr rfl rfl (by decide)) rfl ?_
    refine k_val (ev_xor rfl rfl) rfl ?_
    refine k_val (ev_assign rfl) rfl ?_
    refine run_seq ?_
    refine run_region ?_
    refine k_val (ev_move rfl) rfl ?_
    refine k_val (ev_mul rfl rfl) rfl ?_
    refine k_val (ev_assign rfl) rfl ?_
    refine run_seq ?_
    refine run_region ?_
    refine k_val (ev_move rfl) rfl ?_
    refine k_val (ev_move rfl) rfl ?_
    refine k_val (ev_shr rfl rfl (by decide)) rfl ?_
    refine k_val (ev_xor rfl rfl) rfl ?_
    refine k_val (ev_assign rfl) rfl ?_
    refine run_seq ?_
    refine run_region ?_
    refine k_val (ev_move rfl) rfl ?_
    refine k_val (ev_assign rfl) rfl ?_
    refine ret_spec Tryz.func226 rfl rfl ⟨?_, rfl⟩
    rw [hashI_eq]; unfold hashRaw
    rw [List.take_of_length_le (by simp; omega)]; rfl

abbrev τK : TyD := ⟨184, 182, 165⟩

/-- (*Dict).slot -/
theorem slot_spec {G : World} {L : List HP} {b tb len : Nat} {seed : Int} {c1 c2 c3 c4 : Value} (key : ByteArray) [Reads G L b #[.int .u64 seed, c1, c2, c3, c4]] (hk : key.size ≤ 9223372036854775806) (h0 : 0 < len) (h1 : len ≤ 9223372036854775807) :
    Spec Tryz.prog G 199 [.pointer (some ⟨b, 0, none⟩), .slice (some ⟨tb, 0, none⟩) len len, .string key] L fun v L' => v = .pointer (some ⟨tb, slot seed key len, none⟩) ∧ L' = L := by
  obtain ⟨h2, h3, h4⟩ := slot_lt (seed := seed) (key := key) h0 h1
  have hw : IntKind.u64.wrap ((len : Int) - 1) = ((len - 1 : Nat) : Int) := by rw [u64_wrap (by omega) (by omega)]; omega
  unfold slotI at h2 h3
  rw [hw] at h2 h3
  refine spec_of_run Tryz.func199 rfl rfl ?_
  refine run_seq ?_
  refine run_region ?_
  refine k_val (ev_assign rfl) rfl ?_
  refine run_seq ?_
  refine run_region ?_
  refine k_val (ev_move rfl) rfl ?_
  refine k_val (ev_move rfl) rfl ?_
  refine k_val (ev_nilCheck rfl) rfl ?_
  refine k_val (ev_fieldAddr0 0 rfl (by kernel_rfl)) rfl ?_
  refine k_val (ev_load rfl (by kernel_rfl)) rfl ?_
  refine k_val (ev_move rfl) rfl ?_
  refine k_call rfl rfl (by kernel_rfl) (hash_spec _ _ hk) ?_
  rintro _ _ ⟨rfl, rfl⟩
  refine k_val (ev_move rfl) rfl ?_
  refine k_val (ev_lenSlice (e := 182) rfl (by kernel_rfl)) rfl ?_
  refine k_val (ev_subN (n := 1) rfl rfl rfl rfl (by omega) (by omega)) rfl ?_
  refine k_val (ev_convU64 rfl (by kernel_rfl) (by kernel_rfl) (by omega)) rfl ?_
  refine k_val (ev_and rfl rfl) rfl ?_
  refine k_val (ev_indexAddrI1 (e := 182) rfl rfl (by first | assumption | omega) (by first | assumption | omega) (by kernel_rfl) (by kernel_rfl)) rfl ?_
  refine k_val (ev_assign rfl) rfl ?_
  refine ret_spec Tryz.func199 rfl rfl ⟨?_, rfl⟩
  rw [slot_eq]; unfold slotI packed
  rw [hw]

/-- (*Dict).link of a table with buckets -/
theorem link_spec {G : World} {L : List HP} {b tb : Nat} {seed : Int} {c1 c2 c3 c4 : Value} (t : List (List Ent)) (key : ByteArray) (c : List Ent) [Reads G L b #[.int .u64 seed, c1, c2, c3, c4]] [ht : Reads G L tb (tabCells t)]
    (hk : key.size ≤ 9223372036854775806) (h0 : t ≠ []) (h1 : t.length ≤ 9223372036854775807) (hc : t[slot seed key t.length]? = some c) (hr : ChainR G L c) :
    Spec Tryz.prog G 198 [.pointer (some ⟨b, 0, none⟩), .slice (some ⟨tb, 0, none⟩) t.length t.length, .string key] L fun v L' =>
      v = .pointer ((idxOf c key).map (locOf tb (slot seed key t.length) c)) ∧ L' = L := by
  have hl : 0 < t.length := List.length_pos_iff.2 h0
  refine spec_of_run Tryz.func198 rfl rfl ?_
  refine run_seq ?_
  refine run_region ?_
  refine k_val (ev_assign rfl) rfl ?_
  refine run_seq ?_
  refine run_seq ?_
  refine run_region ?_
  refine k_val (ev_move rfl) rfl ?_
  refine k_val (ev_lenSlice (e := 182) rfl (by kernel_rfl)) rfl ?_
  refine k_val (ev_bF (ev_eqI rfl rfl) (by first | assumption | omega)) rfl ?_
  refine run_cond (t := false) rfl ?_
  refine run_skip ?_
  refine run_seq ?_
  refine run_seq ?_
  refine run_region ?_
  refine k_val (ev_move rfl) rfl ?_
  refine k_val (ev_move rfl) rfl ?_
  refine k_val (ev_move rfl) rfl ?_
  refine k_call rfl rfl (by kernel_rfl) (slot_spec key hk hl h1) ?_
  rintro _ _ ⟨rfl, rfl⟩
  refine k_val (ev_assign rfl) rfl ?_
  refine run_block (run_loopE (fun j => c.length - j) (fun j => j ≤ c.length ∧ ∀ x ∈ c.take j, x.1 ≠ key) (fun j => [(2, .string key), (7, .pointer (some (locOf tb (slot seed key t.length) c j)))]) (fun _ => _) 0 ⟨Nat.zero_le _, by simp⟩ ⟨rfl, rfl, trivial⟩ rfl ?_)
  rintro j ⟨hj, hne⟩ next
  obtain ⟨bb, off, cells, e, hrd, hcell⟩ := loc_read hr ht hc hj
  simp only [e]
  by_cases h : j < c.length
  · obtain ⟨⟨k, eb, v⟩, he⟩ : ∃ x, c[j]? = some x := ⟨c[j], by simp⟩
    have hget : c[j] = (k, eb, v) := by have := List.getElem?_eq_getElem (l := c) (i := j) h; rw [he] at this; exact (Option.some.inj this).symm
    have hd := chainR_drop j hr
    rw [List.drop_eq_getElem_cons h, hget] at hd hcell
    obtain ⟨hre, _⟩ := hd
    change cells[off]? = some (.pointer (some ⟨eb, 0, none⟩)) at hcell
    refine run_seq ?_
    refine run_seq ?_
    refine run_region ?_
    refine k_val (ev_move rfl) rfl ?_
    refine k_val (ev_nilCheck rfl) rfl ?_
    refine k_val (ev_loadAt rfl (by assumption) (by kernel_rfl)) rfl ?_
    refine k_val (ev_neNil rfl rfl (by kernel_rfl)) rfl ?_
    refine run_cond (t := true) rfl ?_
    refine run_skip ?_
    refine run_seq ?_
    refine run_block ?_
    refine run_seq ?_
    refine run_region ?_
    refine k_val (ev_move rfl) rfl ?_
    refine k_val (ev_nilCheck rfl) rfl ?_
    refine k_val (ev_loadAt rfl (by assumption) (by kernel_rfl)) rfl ?_
    refine k_val (ev_nilCheck rfl) rfl ?_
    refine k_val (ev_fieldAddr0 0 rfl (by kernel_rfl)) rfl ?_
    refine k_val (ev_load rfl (by kernel_rfl)) rfl ?_
    refine k_val (ev_move rfl) rfl ?_
    refine k_val (ev_eqS rfl rfl) rfl ?_
    by_cases hk2 : k = key
    · refine run_ifT rfl hk2 ?_
      refine run_seq ?_
      refine run_region ?_
      refine k_val (ev_move rfl) rfl ?_
      refine k_val (ev_assign rfl) rfl ?_
      refine ret_spec Tryz.func198 rfl rfl ⟨?_, rfl⟩
      rw [idxOf_some he hk2 hne, Option.map_some, e]; rfl
    · refine run_ifF rfl hk2 ?_
      refine run_skip ?_
      refine run_inBlock ?_
      refine run_region ?_
      refine k_val (ev_move rfl) rfl ?_
      refine k_val (ev_nilCheck rfl) rfl ?_
      refine k_val (ev_loadAt rfl (by assumption) (by kernel_rfl)) rfl ?_
      refine k_val (ev_nilCheck rfl) rfl ?_
      refine k_val (ev_fieldAddr0 2 rfl (by kernel_rfl)) rfl ?_
      refine k_val (ev_assign rfl) rfl ?_
      exact next (j + 1) _ (by omega) ⟨by omega, take_snoc_all he hne hk2⟩ ⟨rfl, by simp [locOf, he, look], trivial⟩
  · have hcell' : cells[off]? = some (.pointer none) := by rw [hcell, List.drop_of_length_le (by omega)]; rfl
    refine run_seq ?_
    refine run_seq ?_
    refine run_region ?_
    refine k_val (ev_move rfl) rfl ?_
    refine k_val (ev_nilCheck rfl) rfl ?_
    refine k_val (ev_loadAt rfl (by assumption) (by kernel_rfl)) rfl ?_
    refine k_val (ev_neNil rfl rfl (by kernel_rfl)) rfl ?_
    refine run_cond (t := false) rfl ?_
    refine run_exit rfl ?_
    refine run_seq ?_
    refine run_region ?_
    refine k_val (ev_assign rfl) rfl ?_
    refine ret_spec Tryz.func198 rfl rfl ⟨?_, rfl⟩
    rw [idxOf_none (fun y hy => hne y (by rwa [List.take_of_length_le (by omega)]))]; rfl

/-- (*Dict).link of no table -/
theorem link_nil {G : World} {L : List HP} {p : Value} {q : Option Addr} {m : Nat} (key : ByteArray) :
    Spec Tryz.prog G 198 [p, .slice q 0 m, .string key] L fun v L' => v = .pointer none ∧ L' = L := by
  refine spec_of_run Tryz.func198 rfl rfl ?_
  refine run_seq ?_
  refine run_region ?_
  refine k_val (ev_assign rfl) rfl ?_
  refine run_seq ?_
  refine run_seq ?_
  refine run_region ?_
  refine k_val (ev_move rfl) rfl ?_
  refine k_val (ev_lenSlice (e := 182) rfl (by kernel_rfl)) rfl ?_
  refine k_val (ev_bT (ev_eqI rfl rfl) (by first | assumption | omega)) rfl ?_
  refine run_cond (t := true) rfl ?_
  refine run_seq ?_
  refine run_region ?_
  refine k_val (ev_assign rfl) rfl ?_
  exact ret_spec Tryz.func198 rfl rfl ⟨rfl, rfl⟩

theorem link_any {G : World} {L : List HP} {b : Nat} {seed : Int} {c1 c2 c3 c4 : Value} (tb : Nat) (t : List (List Ent)) (key : ByteArray) [Reads G L b #[.int .u64 seed, c1, c2, c3, c4]] (ht : TabR G L tb t)
    (hk : key.size ≤ 9223372036854775806) (h1 : t.length ≤ 9223372036854775807) :
    Spec Tryz.prog G 198 [.pointer (some ⟨b, 0, none⟩), tabV tb t, .string key] L fun v L' => v = .pointer (linkLoc tb seed t key) ∧ L' = L := by
  rcases ht with rfl | ⟨ht, hr⟩
  · exact link_nil key
  · by_cases h0 : t = []
    · subst h0; exact link_nil key
    · have hl := List.length_pos_iff.2 h0
      have hs := (slot_lt (seed := seed) (key := key) hl h1).2.2
      obtain ⟨c, hc⟩ : ∃ c, t[slot seed key t.length]? = some c := ⟨_, List.getElem?_eq_getElem hs⟩
      rw [tabV_cons h0]
      unfold linkLoc
      rw [hc]
      exact link_spec t key c hk h0 h1 hc (hr c (List.mem_of_getElem? hc))

/-- (*Dict).find -/
theorem find_spec {G : World} {L : List HP} {b : Nat} {d : D (Nat × Value)} (to ty : Nat) (key : ByteArray) [Reads G L b (dictCells d to ty)] (ho : TabR G L to d.old) (hy : TabR G L ty d.young)
    (hk : key.size ≤ 9223372036854775806) (h1 : d.old.length ≤ 9223372036854775807) (h2 : d.young.length ≤ 9223372036854775807) :
    Spec Tryz.prog G 148 [.pointer (some ⟨b, 0, none⟩), .string key] L fun v L' => v = .pointer ((linkLoc to d.seed d.old key).or (linkLoc ty d.seed d.young key)) ∧ L' = L := by
  haveI : Reads G L b #[.int .u64 d.seed, tabV to d.old, tabV ty d.young, .int .i64 d.at_, .int .i64 d.n] := ‹_›
  refine spec_of_run Tryz.func148 rfl rfl ?_
  refine run_seq ?_
  refine run_region ?_
  refine k_val (ev_assign rfl) rfl ?_
  refine run_seq ?_
  refine run_seq ?_
  refine run_region ?_
  refine k_val (ev_move rfl) rfl ?_
  refine k_val (ev_move rfl) rfl ?_
  refine k_val (ev_nilCheck rfl) rfl ?_
  refine k_val (ev_fieldAddr0 1 rfl (by kernel_rfl)) rfl ?_
  refine k_val (ev_load rfl (by kernel_rfl)) rfl ?_
  refine k_val (ev_move rfl) rfl ?_
  refine k_call rfl rfl (by kernel_rfl) (link_any to d.old key ho hk h1) ?_
  rintro _ _ ⟨rfl, rfl⟩
  cases hl : linkLoc to d.seed d.old key with
  | some p =>
    refine k_val (ev_assign rfl) rfl ?_
    refine run_seq ?_
    refine run_region ?_
    refine k_val (ev_move rfl) rfl ?_
    refine k_val (ev_neNil rfl rfl (by kernel_rfl)) rfl ?_
    refine run_cond (t := true) rfl ?_
    refine run_seq ?_
    refine run_region ?_
    refine k_val (ev_move rfl) rfl ?_
    refine k_val (ev_assign rfl) rfl ?_
    exact ret_spec Tryz.func148 rfl rfl ⟨rfl, rfl⟩
  | none =>
    refine k_val (ev_assign rfl) rfl ?_
    refine run_seq ?_
    refine run_region ?_
    refine k_val (ev_move rfl) rfl ?_
    refine k_val (ev_neNil rfl rfl (by kernel_rfl)) rfl ?_
    refine run_cond (t := false) rfl ?_
    refine run_skip ?_
    refine run_seq ?_
    refine run_region ?_
    refine k_val (ev_move rfl) rfl ?_
    refine k_val (ev_move rfl) rfl ?_
    refine k_val (ev_nilCheck rfl) rfl ?_
    refine k_val (ev_fieldAddr0 2 rfl (by kernel_rfl)) rfl ?_
    refine k_val (ev_load rfl (by kernel_rfl)) rfl ?_
    refine k_val (ev_move rfl) rfl ?_
    refine k_call rfl rfl (by kernel_rfl) (link_any ty d.young key hy hk h2) ?_
    rintro _ _ ⟨rfl, rfl⟩
    refine k_val (ev_assign rfl) rfl ?_
    exact ret_spec Tryz.func148 rfl rfl ⟨rfl, rfl⟩

/-- (*Dict).moving -/
theorem moving_spec {G : World} {L : List HP} {b : Nat} {d : D (Nat × Value)} (to ty : Nat) [Reads G L b (dictCells d to ty)] :
    Spec Tryz.prog G 149 [.pointer (some ⟨b, 0, none⟩)] L fun v L' => v = .bool (decide (d.young ≠ [])) ∧ L' = L := by
  haveI : Reads G L b #[.int .u64 d.seed, tabV to d.old, tabV ty d.young, .int .i64 d.at_, .int .i64 d.n] := ‹_›
  refine spec_of_run Tryz.func149 rfl rfl ?_
  by_cases h : d.young = []
  · rw [h, tabV_nil] at this
    refine run_seq ?_
    refine run_region ?_
    refine k_val (ev_assign rfl) rfl ?_
    refine run_seq ?_
    refine run_region ?_
    refine k_val (ev_move rfl) rfl ?_
    refine k_val (ev_nilCheck rfl) rfl ?_
    refine k_val (ev_fieldAddr0 2 rfl (by kernel_rfl)) rfl ?_
    refine k_val (ev_load rfl (by kernel_rfl)) rfl ?_
    refine k_val (ev_lenSlice (e := 182) rfl (by kernel_rfl)) rfl ?_
    refine k_val (ev_bF (ev_gt rfl rfl) (by first | assumption | omega)) rfl ?_
    refine k_val (ev_assign rfl) rfl ?_
    exact ret_spec Tryz.func149 rfl rfl ⟨by simp [h, packed], rfl⟩
  · rw [tabV_cons h] at this
    have := List.length_pos_iff.2 h
    refine run_seq ?_
    refine run_region ?_
    refine k_val (ev_assign rfl) rfl ?_
    refine run_seq ?_
    refine run_region ?_
    refine k_val (ev_move rfl) rfl ?_
    refine k_val (ev_nilCheck rfl) rfl ?_
    refine k_val (ev_fieldAddr0 2 rfl (by kernel_rfl)) rfl ?_
    refine k_val (ev_load rfl (by kernel_rfl)) rfl ?_
    refine k_val (ev_lenSlice (e := 182) rfl (by kernel_rfl)) rfl ?_
    refine k_val (ev_bT (ev_gt rfl rfl) (by first | assumption | omega)) rfl ?_
    refine k_val (ev_assign rfl) rfl ?_
    exact ret_spec Tryz.func149 rfl rfl ⟨by simp [h, packed], rfl⟩
/-- (*Dict).Len -/
theorem len_spec {G : World} {L : List HP} {b : Nat} {d : D (Nat × Value)} (to ty : Nat) [Reads G L b (dictCells d to ty)] :
    Spec Tryz.prog G 64 [.pointer (some ⟨b, 0, none⟩)] L fun v L' => v = .int .i64 d.n ∧ L' = L := by
  haveI : Reads G L b #[.int .u64 d.seed, tabV to d.old, tabV ty d.young, .int .i64 d.at_, .int .i64 d.n] := ‹_›
  refine spec_of_run Tryz.func64 rfl rfl ?_
  refine run_seq ?_
  refine run_region ?_
  refine k_val (ev_assign rfl) rfl ?_
  refine run_seq ?_
  refine run_seq ?_
  refine run_region ?_
  refine k_val (ev_move rfl) rfl ?_
  refine k_val (ev_eqNil rfl rfl (by kernel_rfl)) rfl ?_
  refine run_cond (t := false) rfl ?_
  refine run_skip ?_
  refine run_seq ?_
  refine run_region ?_
  refine k_val (ev_move rfl) rfl ?_
  refine k_val (ev_nilCheck rfl) rfl ?_
  refine k_val (ev_fieldAddr0 4 rfl (by kernel_rfl)) rfl ?_
  refine k_val (ev_load rfl (by kernel_rfl)) rfl ?_
  refine k_val (ev_assign rfl) rfl ?_
  exact ret_spec Tryz.func64 rfl rfl ⟨rfl, rfl⟩

/-- (*Dict).hang, of an entry that lies by itself -/
theorem hang_spec {G : World} {F : List HP} {b tb e : Nat} {seed : Int} {c1 c2 c3 c4 nx v : Value} (t : List (List Ent)) (key : ByteArray) (c : List Ent) [Reads G F b #[.int .u64 seed, c1, c2, c3, c4]]
    (hk : key.size ≤ 9223372036854775806) (h0 : t ≠ []) (h1 : t.length ≤ 9223372036854775807) (hc : t[slot seed key t.length]? = some c) :
    Spec Tryz.prog G 150 [.pointer (some ⟨b, 0, none⟩), .slice (some ⟨tb, 0, none⟩) t.length t.length, .pointer (some ⟨e, 0, none⟩)]
      (Blk e (.cells #[.string key, v, nx] 184 (0, 0)) :: Blk tb (.cells (tabCells t) 182 (0, 0)) :: F) fun _ L' =>
      L' = Blk e (.cells #[.string key, v, .pointer (headP none c)] 184 (0, 0)) :: Blk tb (.cells ((tabCells t).setIfInBounds (slot seed key t.length) (.pointer (some ⟨e, 0, none⟩))) 182 (0, 0)) :: F := by
  have hl := List.length_pos_iff.2 h0
  have hg := tabCells_get hc
  refine spec_of_run Tryz.func150 rfl rfl ?_
  refine run_seq ?_
  refine run_region ?_
  refine k_val (ev_move rfl) rfl ?_
  refine k_val (ev_move rfl) rfl ?_
  refine k_val (ev_move rfl) rfl ?_
  refine k_val (ev_nilCheck rfl) rfl ?_
  refine k_val (ev_fieldAddr0 0 rfl (by kernel_rfl)) rfl ?_
  refine k_val (ev_load rfl (by kernel_rfl)) rfl ?_
  refine k_call rfl rfl (by kernel_rfl) (slot_spec key hk hl h1) ?_
  rintro _ _ ⟨rfl, rfl⟩
  have hlt : slot seed key t.length < (tabCells t).size := by rw [tabCells_size]; exact (slot_lt hl h1).2.2
  refine k_val (ev_assign rfl) rfl ?_
  refine run_seq ?_
  refine run_region ?_
  refine k_val (ev_move rfl) rfl ?_
  refine k_val (ev_move rfl) rfl ?_
  refine k_val (ev_nilCheck rfl) rfl ?_
  refine k_val (ev_loadAt rfl (by assumption) (by kernel_rfl)) rfl ?_
  refine k_val (ev_nilCheck rfl) rfl ?_
  refine k_val (ev_fieldAddr0 2 rfl (by kernel_rfl)) rfl ?_
  refine k_store rfl rfl rfl rfl (by kernel_rfl) ?_
  refine run_region ?_
  refine k_val (ev_move rfl) rfl ?_
  refine k_val (ev_move rfl) rfl ?_
  refine k_val (ev_nilCheck rfl) rfl ?_
  refine k_storeAt rfl rfl (by assumption) rfl (by kernel_rfl) ?_
  exact end_spec Tryz.func150 rfl rfl rfl

end Go.PS
