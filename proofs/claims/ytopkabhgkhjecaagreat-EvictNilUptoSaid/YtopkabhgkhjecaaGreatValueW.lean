/-
  Values that are texts: their methods, walked.
  Conditions: each contract's own.
-/
import Derived.Test.YtopkabhgkhjecaaGreatSpaceW
namespace Go.PS
open Go Go.Proofs
set_option maxRecDepth 10000

section
variable {G : World} {L F : List HP}

theorem mKind : ∀ rv w, (method (Tryz.prog.types.size + Made.depth) tyText rv "pantry/value.kind").run Tryz.prog w = .ok (258, rv) w := fun _ _ => by kernel_rfl
theorem mEmpty : ∀ rv w, (method (Tryz.prog.types.size + Made.depth) tyText rv "pantry/value.empty").run Tryz.prog w = .ok (257, rv) w := fun _ _ => by kernel_rfl
theorem mCost : ∀ rv w, (method (Tryz.prog.types.size + Made.depth) tyText rv "Cost").run Tryz.prog w = .ok (256, rv) w := fun _ _ => by kernel_rfl
theorem mPlain : ∀ rv w, (method (Tryz.prog.types.size + Made.depth) tyText rv "pantry/value.plain").run Tryz.prog w = .ok (259, rv) w := fun _ _ => by kernel_rfl

theorem tkind_spec (s : ByteArray) : Spec Tryz.prog G 258 [.string s] L fun v L' => v = .int .i64 1 ∧ L' = L := by
  refine spec_of_run Tryz.func258 rfl rfl ?_
  refine run_seq ?_
  refine run_region ?_
  refine k_val (ev_assign rfl) rfl ?_
  refine run_seq ?_
  refine run_region ?_
  refine k_val (ev_assign rfl) rfl ?_
  exact ret_spec Tryz.func258 rfl rfl ⟨rfl, rfl⟩
theorem tempty_spec (s : ByteArray) : Spec Tryz.prog G 257 [.string s] L fun v L' => v = .bool false ∧ L' = L := by
  refine spec_of_run Tryz.func257 rfl rfl ?_
  refine run_seq ?_
  refine run_region ?_
  refine k_val (ev_assign rfl) rfl ?_
  refine run_seq ?_
  refine run_region ?_
  refine k_val (ev_assign rfl) rfl ?_
  exact ret_spec Tryz.func257 rfl rfl ⟨rfl, rfl⟩
theorem tcost_spec (s : ByteArray) : Spec Tryz.prog G 256 [.string s] L fun v L' => v = .int .i64 s.size ∧ L' = L := by
  refine spec_of_run Tryz.func256 rfl rfl ?_
  refine run_seq ?_
  refine run_region ?_
  refine k_val (ev_assign rfl) rfl ?_
  refine run_seq ?_
  refine run_region ?_
  refine k_val (ev_move rfl) rfl ?_
  refine k_val (ev_lenString rfl (by kernel_rfl)) rfl ?_
  refine k_val (ev_assign rfl) rfl ?_
  exact ret_spec Tryz.func256 rfl rfl ⟨rfl, rfl⟩
theorem tplain_spec (s : ByteArray) {p : Nat} {c0 c1 c2 c3 c4 : Value} : Spec Tryz.prog G 259 [.string s, ptrV p] (Blk p (.cells #[c0, c1, c2, c3, c4] 66 (0, 0)) :: F) fun _ L' => L' = Blk p (.cells #[c0, .string s, c2, c3, c4] 66 (0, 0)) :: F := by
  refine spec_of_run Tryz.func259 rfl rfl ?_
  refine run_region ?_
  refine k_val (ev_move rfl) rfl ?_
  refine k_val (ev_move rfl) rfl ?_
  refine k_val (ev_nilCheck rfl) rfl ?_
  refine k_val (ev_fieldAddr0 1 rfl (by kernel_rfl)) rfl ?_
  refine k_store rfl rfl rfl rfl (by kernel_rfl) ?_
  refine end_spec Tryz.func259 rfl rfl ?_
  rfl

theorem text_spec (s : ByteArray) : Spec Tryz.prog G 53 [.string s] L fun v L' => ∃ vp, v = ptrV vp ∧ L' = Blk vp (.cells #[.iface tyText (.string s)] tyVal (0, 0)) :: L := by
  refine spec_of_run Tryz.func53 rfl rfl ?_
  refine run_seq ?_
  refine run_region ?_
  refine k_val (ev_assign rfl) rfl ?_
  refine run_seq ?_
  refine run_region ?_
  refine k_val (ev_move rfl) rfl ?_
  refine k_val (ev_makeInterface rfl (by kernel_rfl)) rfl ?_
  refine k_val (ev_build1 [.nilIface] [0] (by kernel_rfl) (by kernel_rfl) rfl rfl rfl) rfl ?_
  refine k_boxAgg rfl rfl ?_
  intro nb1
  refine k_val (ev_assign rfl) rfl ?_
  exact ret_spec Tryz.func53 rfl rfl ⟨_, rfl, rfl⟩
variable {vp : Nat} {s : ByteArray} [hrd : Reads G L vp #[.iface tyText (.string s)]]
include hrd
theorem in_spec : Spec Tryz.prog G 146 [ptrV vp] L fun v L' => v = .iface tyText (.string s) ∧ L' = L := by
  refine spec_of_run Tryz.func146 rfl rfl ?_
  refine run_seq ?_
  refine run_region ?_
  refine k_val (ev_assign rfl) rfl ?_
  refine run_seq ?_
  refine run_seq ?_
  refine run_region ?_
  refine k_val (ev_move rfl) rfl ?_
  refine k_val (ev_eqNil rfl rfl (by kernel_rfl)) rfl ?_
  refine run_cond (t := false) rfl ?_
  refine run_skip ?_
  refine run_seq ?_
  refine run_region ?_
  refine k_val (ev_move rfl) rfl ?_
  refine k_val (ev_nilCheck rfl) rfl ?_
  refine k_val (ev_fieldAddr0 0 rfl (by kernel_rfl)) rfl ?_
  refine k_val (ev_load rfl (by kernel_rfl)) rfl ?_
  refine k_val (ev_assign rfl) rfl ?_
  exact ret_spec Tryz.func146 rfl rfl ⟨rfl, rfl⟩
theorem astext_spec : Spec Tryz.prog G 101 [ptrV vp] L fun v L' => v = .tuple #[.string s, .bool true] ∧ L' = L := by
  refine spec_of_run Tryz.func101 rfl rfl ?_
  refine run_seq ?_
  refine run_region ?_
  refine k_val (ev_assign rfl) rfl ?_
  refine k_val (ev_assign rfl) rfl ?_
  refine run_seq ?_
  refine run_region ?_
  refine k_val (ev_move rfl) rfl ?_
  refine k_call rfl rfl (by kernel_rfl) in_spec ?_
  rintro _ _ ⟨rfl, rfl⟩
  refine k_val (ev_assertT rfl (by kernel_rfl)) rfl ?_
  refine k_val (ev_move rfl) rfl ?_
  refine k_val (ev_extract rfl rfl) rfl ?_
  refine k_val (ev_extract rfl rfl) rfl ?_
  refine k_val (ev_assign rfl) rfl ?_
  refine k_val (ev_assign rfl) rfl ?_
  refine run_seq ?_
  refine run_region ?_
  refine k_val (ev_move rfl) rfl ?_
  refine k_val (ev_move rfl) rfl ?_
  refine k_val (ev_assign rfl) rfl ?_
  refine k_val (ev_assign rfl) rfl ?_
  exact ret_spec Tryz.func101 rfl rfl ⟨rfl, rfl⟩
theorem empty_spec : Spec Tryz.prog G 102 [ptrV vp] L fun v L' => v = .bool false ∧ L' = L := by
  refine spec_of_run Tryz.func102 rfl rfl ?_
  refine run_seq ?_
  refine run_region ?_
  refine k_val (ev_assign rfl) rfl ?_
  refine run_seq ?_
  refine run_region ?_
  refine k_val (ev_move rfl) rfl ?_
  refine k_val (ev_neNil rfl rfl (by kernel_rfl)) rfl ?_
  refine k_val (ev_move rfl) rfl ?_
  refine k_guard rfl rfl rfl ?_
  refine k_val (ev_move rfl) rfl ?_
  refine k_guard rfl rfl rfl ?_
  refine k_val (ev_nilCheck rfl) rfl ?_
  refine k_guard rfl rfl rfl ?_
  refine k_val (ev_fieldAddr0 0 rfl (by kernel_rfl)) rfl ?_
  refine k_guard rfl rfl rfl ?_
  refine k_val (ev_load rfl (by kernel_rfl)) rfl ?_
  refine k_guard rfl rfl rfl ?_
  refine k_invoke 257 rfl rfl mEmpty rfl (by kernel_rfl) (tempty_spec s) ?_
  rintro _ _ ⟨rfl, rfl⟩
  refine k_val (ev_pickT rfl rfl) rfl ?_
  refine k_val (ev_assign rfl) rfl ?_
  exact ret_spec Tryz.func102 rfl rfl ⟨rfl, rfl⟩
theorem cost_spec : Spec Tryz.prog G 106 [ptrV vp] L fun v L' => v = .int .i64 s.size ∧ L' = L := by
  refine spec_of_run Tryz.func106 rfl rfl ?_
  refine run_seq ?_
  refine run_region ?_
  refine k_val (ev_assign rfl) rfl ?_
  refine run_seq ?_
  refine run_seq ?_
  refine run_region ?_
  refine k_val (ev_move rfl) rfl ?_
  refine k_val (ev_eqNil rfl rfl (by kernel_rfl)) rfl ?_
  refine run_cond (t := false) rfl ?_
  refine run_skip ?_
  refine run_seq ?_
  refine run_region ?_
  refine k_val (ev_move rfl) rfl ?_
  refine k_val (ev_nilCheck rfl) rfl ?_
  refine k_val (ev_fieldAddr0 0 rfl (by kernel_rfl)) rfl ?_
  refine k_val (ev_load rfl (by kernel_rfl)) rfl ?_
  refine k_invoke 256 rfl rfl mCost rfl (by kernel_rfl) (tcost_spec s) ?_
  rintro _ _ ⟨rfl, rfl⟩
  refine k_val (ev_assign rfl) rfl ?_
  exact ret_spec Tryz.func106 rfl rfl ⟨rfl, rfl⟩
theorem kind_spec : Spec Tryz.prog G 117 [ptrV vp] L fun v L' => v = .int .i64 1 ∧ L' = L := by
  refine spec_of_run Tryz.func117 rfl rfl ?_
  refine run_seq ?_
  refine run_region ?_
  refine k_val (ev_assign rfl) rfl ?_
  refine run_seq ?_
  refine run_seq ?_
  refine run_region ?_
  refine k_val (ev_move rfl) rfl ?_
  refine k_val (ev_eqNil rfl rfl (by kernel_rfl)) rfl ?_
  refine run_cond (t := false) rfl ?_
  refine run_skip ?_
  refine run_seq ?_
  refine run_region ?_
  refine k_val (ev_move rfl) rfl ?_
  refine k_val (ev_nilCheck rfl) rfl ?_
  refine k_val (ev_fieldAddr0 0 rfl (by kernel_rfl)) rfl ?_
  refine k_val (ev_load rfl (by kernel_rfl)) rfl ?_
  refine k_invoke 258 rfl rfl mKind rfl (by kernel_rfl) (tkind_spec s) ?_
  rintro _ _ ⟨rfl, rfl⟩
  refine k_val (ev_assign rfl) rfl ?_
  exact ret_spec Tryz.func117 rfl rfl ⟨rfl, rfl⟩
theorem plain_spec : Spec Tryz.prog G 65 [ptrV vp] L fun v L' => v = .agg #[.int .i64 1, .string s, .slice none 0 0, .slice none 0 0, .slice none 0 0] ∧ ∃ X, L' = X ++ L := by
  refine spec_of_run Tryz.func65 rfl rfl ?_
  refine run_seq ?_
  refine run_region ?_
  refine k_alloc (#[.int .i64 0, .string ByteArray.empty, .slice none 0 0, .slice none 0 0, .slice none 0 0]) (by kernel_rfl) rfl ?_
  intro nb1
  refine run_seq ?_
  refine run_region ?_
  refine k_alloc (#[.int .i64 0, .string ByteArray.empty, .slice none 0 0, .slice none 0 0, .slice none 0 0]) (by kernel_rfl) rfl ?_
  intro nb2
  refine run_seq ?_
  refine run_seq ?_
  refine run_region ?_
  refine k_val (ev_move rfl) rfl ?_
  refine k_val (ev_neNil rfl rfl (by kernel_rfl)) rfl ?_
  refine run_cond (t := true) rfl ?_
  refine run_seq ?_
  refine run_region ?_
  refine k_val (ev_move rfl) rfl ?_
  refine k_call rfl rfl (by kernel_rfl) kind_spec ?_
  rintro _ _ ⟨rfl, rfl⟩
  refine k_val (ev_fieldAddr0 0 rfl (by kernel_rfl)) rfl ?_
  refine k_store rfl rfl rfl rfl (by kernel_rfl) ?_
  refine run_region ?_
  refine k_val (ev_move rfl) rfl ?_
  refine k_val (ev_nilCheck rfl) rfl ?_
  refine k_val (ev_fieldAddr0 0 rfl (by kernel_rfl)) rfl ?_
  refine k_val (ev_load rfl (by kernel_rfl)) rfl ?_
  refine k_invoke 259 rfl rfl mPlain rfl (by kernel_rfl) (tplain_spec s) ?_
  rintro _ _ rfl
  refine run_seq ?_
  refine run_region ?_
  refine k_val (ev_loadAllS 5 rfl rfl (by kernel_rfl)) rfl ?_
  refine k_storeAllS 5 rfl rfl rfl rfl rfl (by kernel_rfl) ?_
  exact ret_specR Tryz.func65 rfl (resR_cell rfl (by kernel_rfl) resR_nil) ⟨rfl, [_, _], rfl⟩
end
end Go.PS
