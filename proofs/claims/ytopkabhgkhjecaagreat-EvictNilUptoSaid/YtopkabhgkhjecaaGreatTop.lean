/-
  How a law's arguments are opened and how they read behind the call.
  Conditions: each lemma's own.
-/
import Derived.Test.YtopkabhgkhjecaaGreatWakesW
import Derived.Test.YtopkabhgkhjecaaGreatRows
import Derived.WalkKit
import Derived.ProofKit
import Derived.OpenShut
import Derived.JoinedCond
import Derived.Carry
import Derived.Lib.SmallJoins
namespace Go.PS
open Go Go.Proofs Go.ChangeShapes Go.WideShapes Go.ChangeAt Go.RowKit Go.WideElems Go.Joins

section
variable {H : Type} {enc : TypeId × Value → H} {P : Program} {W W' : World}

theorem below_of_sat (h : Sat W W' [Old W]) : Below W.heap.size W W' :=
  ⟨h.os, h.tape, h.output, h.size (.head _), fun k hk => by rw [Array.getElem?_eq_getElem hk]; exact h.oldOf (.head _) (Array.getElem?_eq_getElem hk)⟩

theorem trodAll_stays (hl : laidOutB P = true) (hb : Below W.heap.size W W') (sp : Nat → Bool) : ∀ {ts : List TypeId} {vs : List Value} {ds : List (DataW H)} {ps : List MemPlace},
    ts.all (fun t => P.readableRec t && decide (t < P.types.size)) = true → DataW.TrodAll enc P W 0 (fun _ => true) true ts vs ds ps → (∀ p ∈ ps, p.block < W.heap.size) → (∀ p ∈ ps, sp p.block = true) → DataW.TrodAll enc P W' 0 sp true ts vs ds ps
  | [], vs, ds, ps, _, h, _, _ => by
    obtain ⟨rfl, rfl, rfl⟩ := trodAll_nil h
    exact trodAll_mk0
  | t :: ts, vs, ds, ps, ht, h, hlt, hsp => by
    obtain ⟨v, vs1, d, ds1, p, q, rfl, rfl, rfl, h1, h2⟩ := trodAll_cons h
    simp only [List.all_cons, Bool.and_eq_true, decide_eq_true_eq] at ht
    refine trodAll_cons_mk (Trod_stays hl ht.1.1 ht.1.2 h1 (fun x hx => hb.same (hlt x (List.mem_append_left _ hx))) fun x hx => hsp x (List.mem_append_left _ hx)) ?_
    exact trodAll_stays hl hb sp ht.2 h2 (fun x hx => hlt x (List.mem_append_right _ hx)) fun x hx => hsp x (List.mem_append_right _ hx)

/-- True, and nothing of what was there has turned. -/
theorem post_true {f : Func} {s : ChangeSpec} {apart fresh handsOn again : Bool} {args : Array Value} {ds : List (DataW H)} {before : List MemPlace} {tb : TypeId} (hl : laidOutB P = true) (hts : f.params.toList.all (fun t => P.readableRec t && decide (t < P.types.size)) = true)
    (hr : f.resultTypes = #[tb]) (ht : P.underlying tb = some .bool) (hvs : s.vars = []) (hres : (s.fn H (ds ++ [])).results = [.lit (.bool true)]) (hargs : (s.fn H (ds ++ [])).args = ds) (hvars : (s.fn H (ds ++ [])).vars = [])
    (hW : DataW.Whole enc P f.params.toList s.vars apart W args.toList ds [] before) (h : Sat W W' [Old W]) : s.post enc P f apart fresh handsOn again W args (.bool true) W' := by
  have hb := below_of_sat h
  have hlt := hW.lt
  have hW2 := hW
  obtain ⟨p, q, hA, hV, rfl, hz, hn⟩ := hW
  rw [hvs] at hV
  obtain ⟨_, rfl⟩ := trodVars_none hV
  have hpl : ∀ x ∈ p, x.block < W.heap.size := fun x hx => by simpa using hlt x (List.mem_append_left _ hx)
  have ha : ∀ sp : Nat → Bool, (∀ x ∈ p, sp x.block = true) → DataW.TrodAll enc P W' 0 sp true f.params.toList args.toList (s.fn H (ds ++ [])).args p := fun sp hsp => by
    rw [hargs]; exact trodAll_stays hl hb sp hts hA hpl hsp
  have hr0 : ∀ (b : Nat) (sp : Nat → Bool) (hd : Bool), DataW.TrodAll enc P W' b sp hd f.resultTypes.toList ((Value.bool true).resultList f.resultTypes.size) (s.fn H (ds ++ [])).results [] := fun b sp hd => by
    rw [hres, hr]; exact trodAll_cons_mk (shut_bool ht _) trodAll_mk0
  have hv0 : ∀ sp : Nat → Bool, DataW.TrodVars enc P W' sp s.vars (s.fn H (ds ++ [])).vars [] := fun sp => by rw [hvs, hvars]; rfl
  have hold : ∀ x ∈ p, (fun b => decide (b < W.heap.size)) x.block = true := fun x hx => by simpa using hpl x hx
  refine ⟨ds, [], p ++ [], [], p, [], hW2, hr0 _ _ _, ha _ hold, hv0 _, hb.frame _, fun _ => ⟨?_, _, _, ([] ++ p) ++ [], ⟨[] ++ p, [], trodAll_append (ha _ fun _ _ => rfl) (hr0 _ _ _), hv0 _, rfl, ?_, ?_⟩, ?_⟩⟩
  · exact ok_one hr rfl (okWide_bool_mk ht _)
  · intro b off hp
    have hp' : MemPlace.cell b off ∈ p ++ [] := by simpa using hp
    rw [hb.frozen (p := ⟨b, off, none⟩) (hlt _ hp')]
    exact hz b off hp'
  · intro hap
    simpa using hn hap
  · intro x hx _
    simpa using hx

theorem cells_of_cell {a : Addr} {v : Value} (h : W.cell? a = some v) : ∃ C T fz, W.heap[a.block]? = some (.cells C T fz) ∧ a.spot = none ∧ C[a.off]? = some v := by
  unfold World.cell? at h
  split at h
  · rename_i c T fz hc
    split at h
    · cases h
    · rename_i hs
      exact ⟨c, T, fz, hc, by simpa using hs, h⟩
  · cases h
/-- A slice of draws, as it comes in. -/
theorem draws_in {base : Nat} {sp : Nat → Bool} {held : Bool} {t e : TypeId} {v : Value} {d : DataW H} {ps : List MemPlace} {r : Reach} {b0 : Nat} (ht : P.underlying t = some (.slice e)) (he : P.underlying e = some (.int .u64)) (hc : P.cellsOf e = 1)
    (hval : Value.okWide P W r b0 t v) (h : DataW.Trod enc P W base sp held t v d ps) :
    ∃ ds : List Int, DrawsIn W [Old W] v ds ∧ (∀ x ∈ ds, 0 ≤ x ∧ x ≤ 18446744073709551615) ∧ (ds = [] ∧ d = .nil ∨ ∃ rest, d = .slice (lits .u64 ds) rest) := by
  obtain ⟨a0, l0, c0, rfl⟩ := okWide_slice ht hval
  obtain ⟨fuel, hf⟩ := h
  rcases open_ints ht he hc hf with ⟨h1, h2⟩ | ⟨a, len, cap, zs, h1, _, hlc, _, hzl, hx, hcell, hwf⟩
  · simp only [Value.cells, List.cons.injEq, and_true, Value.slice.injEq] at h1
    obtain ⟨rfl, rfl, rfl⟩ := h1
    simp only [Prod.mk.injEq] at h2
    exact ⟨[], .inl ⟨0, 0, rfl, rfl⟩, by simp, .inl ⟨rfl, h2.1⟩⟩
  · simp only [Value.cells, List.cons.injEq, and_true, Value.slice.injEq] at h1
    obtain ⟨rfl, rfl, rfl⟩ := h1
    simp only [Prod.mk.injEq] at hx
    have hle : l0 ≤ zs.length := by rw [hzl]; split <;> omega
    have hlen : (zs.take l0).length = l0 := by rw [List.length_take]; omega
    refine ⟨zs.take l0, ?_, ?_, .inr ⟨_, hx.1⟩⟩
    · rcases Nat.eq_zero_or_pos l0 with h0 | hpos
      · subst h0
        exact .inr (.inl ⟨a, c0, rfl, by simp⟩)
      · obtain ⟨C, T, fz, hb, hs, hc0⟩ := cells_of_cell (hcell 0 (by omega))
        obtain ⟨b, off, sp0⟩ := a
        simp only [Addr.add, if_true] at hb hs hc0
        subst hs
        have hget : ∀ i, i < l0 → C[off + i]? = some (.int .u64 (zs.getD i 0)) := fun i hi => by
          have := hcell i (by omega)
          rw [add_off, cell_of hb] at this
          exact this
        refine .inr (.inr ⟨b, off, c0, C, by rw [hlen], reads_old (.head _) hb, ?_, ?_⟩)
        · rw [hlen]
          have := (Array.getElem?_eq_some_iff.1 (hget (l0 - 1) (by omega))).1
          omega
        · intro i x hi
          have hil : i < l0 := by have := (List.getElem?_eq_some_iff.1 hi).1; omega
          rw [hget i hil]
          rw [List.getElem?_take, if_pos hil] at hi
          rw [List.getD_eq_getElem?_getD, hi]; rfl
    · intro x hx'
      have := hwf x (List.mem_of_mem_take hx')
      simpa [Lit.wf, IntKind.min, IntKind.max, IntKind.signed, IntKind.bits] using this
end
end Go.PS
