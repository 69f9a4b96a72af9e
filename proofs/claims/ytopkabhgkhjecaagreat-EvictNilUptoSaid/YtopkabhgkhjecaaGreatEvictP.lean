/-
  A round as plain data, and that it keeps things right.
  Conditions: none.
-/
import Derived.Test.YtopkabhgkhjecaaGreatEvictW
namespace Go.PS
open Go Go.Proofs Go.Shelf
set_option maxRecDepth 10000

structure Rd where
  s : Sp Unit
  p : Pl
  ds : List Int
structure Pl.Ok (p : Pl) : Prop where
  lo : 0 ≤ p.most
  hi : p.most ≤ 1048575
  len : (p.row.length : Int) ≤ p.most
  key : ∀ x ∈ p.row, x.1.size ≤ 1048576
theorem sortC_mem {x : Cand} {row : List Cand} : x ∈ sortC row ↔ x ∈ row := by unfold sortC; exact List.mem_mergeSort
theorem dropK_mem {x : Cand} {row : List Cand} {key : ByteArray} : x ∈ dropK row key ↔ x ∈ row ∧ x.1 ≠ key := by unfold dropK; simp [List.mem_filter]
theorem dropK_len (row : List Cand) (key : ByteArray) : (dropK row key).length ≤ row.length := List.length_filter_le _ _
theorem Pl.Ok.drop {p : Pl} (h : p.Ok) (key : ByteArray) : Pl.Ok { p with row := dropK p.row key } :=
  ⟨h.lo, h.hi, by have := dropK_len p.row key; have := h.len; simp only; omega, fun x hx => h.key x (dropK_mem.1 hx).1⟩
theorem Pl.Ok.offer {p : Pl} (h : p.Ok) {x : Cand} (hx : x.1.size ≤ 1048576) : (p.offer x).1.Ok := by
  have hm : ∀ y ∈ sortC (dropK p.row x.1 ++ [x]), y.1.size ≤ 1048576 := by
    intro y hy
    rw [sortC_mem, List.mem_append, List.mem_singleton] at hy
    rcases hy with hy | rfl
    · exact h.key y (dropK_mem.1 hy).1
    · exact hx
  unfold Pl.offer
  simp only
  split
  · rename_i hc
    exact ⟨h.lo, h.hi, hc, hm⟩
  · refine ⟨h.lo, h.hi, ?_, fun y hy => hm y (List.mem_of_mem_take hy)⟩
    have := h.lo
    simp only [List.length_take]
    omega
theorem Sp.met_cfg {α : Type} (s : Sp α) (key : ByteArray) : (s.met key).cfg = s.cfg := by unfold Sp.met; split <;> rfl
theorem Sp.expires_cfg {α : Type} : ∀ (l : List ByteArray) (s : Sp α), (l.foldl Sp.expires s).cfg = s.cfg
  | [], _ => rfl
  | _ :: l, s => by rw [List.foldl_cons, Sp.expires_cfg l]; rfl
theorem Sp.swept_cfg {α : Type} (s : Sp α) : s.swept.cfg = s.cfg := by
  unfold Sp.swept Sp.sweep
  split
  · rfl
  · exact Sp.expires_cfg _ _
theorem Sp.Ok.sampled {s : Sp Unit} (ok : s.Ok) (hv : s.vol ≤ 1099511627776) {al : Bool} {r : Nat} {k : ByteArray} (h : s.sampled al r = some k) : k ∈ s.swept.main.keys ∧ k.size ≤ 1048576 := by
  have h1 : s.swept.Ok := (ok.sweep hv 9223372036854775807).1
  have h2 : k ∈ s.swept.main.keys := by
    unfold Sp.sampled at h
    split at h
    · have := D.sample_mem h
      rw [h1.wm.all_eq] at this
      exact this
    · have := D.sample_mem h
      rw [h1.wl.all_eq] at this
      exact ((h1.sub k).1 this).1
  exact ⟨h2, (h1.key k h2).1⟩

namespace Rd
noncomputable def refresh1 (pol : Int) (e : Rd) (x : Cand) : Rd :=
  ⟨e.s.met x.1, if (e.s.rank pol x.1).2 then (e.p.offer (x.1, (e.s.rank pol x.1).1)).1 else { e.p with row := dropK e.p.row x.1 }, e.ds⟩
noncomputable def draw1 (pol : Int) (e : Rd) : Rd :=
  match e.s.sampled (decide (pol = 1)) (nextD e.ds).toNat with
  | some k => ⟨e.s.swept.met k, (e.p.offer (k, (e.s.swept.rank pol k).1)).1, e.ds.tail⟩
  | none => ⟨e.s.swept, e.p, e.ds.tail⟩
noncomputable def draws (pol : Int) : Nat → Rd → Rd
  | 0, e => e
  | n + 1, e => draws pol n (e.draw1 pol)
noncomputable def round (pol : Int) (e : Rd) : Rd := draws pol e.s.cfg.samples.toNat (e.p.row.foldl (refresh1 pol) e)
theorem refresh1_T {pol : Int} {e : Rd} {x : Cand} {r : Int} (h : e.s.rank pol x.1 = (r, true)) : e.refresh1 pol x = ⟨e.s.met x.1, (e.p.offer (x.1, r)).1, e.ds⟩ := by unfold refresh1; rw [h]; rfl
theorem refresh1_F {pol : Int} {e : Rd} {x : Cand} {r : Int} (h : e.s.rank pol x.1 = (r, false)) : e.refresh1 pol x = ⟨e.s.met x.1, { e.p with row := dropK e.p.row x.1 }, e.ds⟩ := by unfold refresh1; rw [h]; rfl
theorem draw1_S {pol : Int} {e : Rd} {k : ByteArray} (h : e.s.sampled (decide (pol = 1)) (nextD e.ds).toNat = some k) : e.draw1 pol = ⟨e.s.swept.met k, (e.p.offer (k, (e.s.swept.rank pol k).1)).1, e.ds.tail⟩ := by unfold draw1; rw [h]
theorem draw1_N {pol : Int} {e : Rd} (h : e.s.sampled (decide (pol = 1)) (nextD e.ds).toNat = none) : e.draw1 pol = ⟨e.s.swept, e.p, e.ds.tail⟩ := by unfold draw1; rw [h]
theorem draws_succ (pol : Int) : ∀ (n : Nat) (e : Rd), e.draws pol (n + 1) = (e.draws pol n).draw1 pol
  | 0, _ => rfl
  | n + 1, e => draws_succ pol n (e.draw1 pol)
structure Ok (e : Rd) : Prop where
  s : e.s.Ok
  v : e.s.vol ≤ 1099511627776
  p : e.p.Ok
  d : ∀ x ∈ e.ds, 0 ≤ x ∧ x ≤ 18446744073709551615
theorem Ok.refresh1 {e : Rd} (h : e.Ok) (pol : Int) {x : Cand} (hx : x.1.size ≤ 1048576) : (e.refresh1 pol x).Ok := by
  have h1 := h.s.met h.v x.1
  refine ⟨h1.1, Nat.le_trans h1.2 h.v, ?_, h.d⟩
  unfold Rd.refresh1
  simp only
  split
  · exact h.p.offer hx
  · exact h.p.drop _
theorem nextD_ok {ds : List Int} (h : ∀ x ∈ ds, 0 ≤ x ∧ x ≤ 18446744073709551615) : 0 ≤ nextD ds ∧ nextD ds ≤ 18446744073709551615 := by
  cases ds with
  | nil => simp [nextD]
  | cons x t => exact h x (.head _)
theorem Ok.draw1 {e : Rd} (h : e.Ok) (pol : Int) : (e.draw1 pol).Ok := by
  have h1 := h.s.sweep h.v 9223372036854775807
  have ht : ∀ x ∈ e.ds.tail, 0 ≤ x ∧ x ≤ 18446744073709551615 := fun x hx => h.d x (List.mem_of_mem_tail hx)
  have h1v : e.s.swept.vol ≤ 1099511627776 := Nat.le_trans h1.2 h.v
  unfold Rd.draw1
  split
  · rename_i k hk
    have h2 := h1.1.met h1v k
    exact ⟨h2.1, Nat.le_trans h2.2 h1v, h.p.offer (h.s.sampled h.v hk).2, ht⟩
  · exact ⟨h1.1, h1v, h.p, ht⟩
theorem Ok.draws (pol : Int) : ∀ (n : Nat) {e : Rd}, e.Ok → (e.draws pol n).Ok
  | 0, _, h => h
  | n + 1, _, h => Ok.draws pol n (h.draw1 pol)
theorem Ok.refresh (pol : Int) : ∀ (l : List Cand) {e : Rd}, e.Ok → (∀ x ∈ l, x.1.size ≤ 1048576) → (l.foldl (Rd.refresh1 pol) e).Ok
  | [], _, h, _ => h
  | x :: l, _, h, hl => Ok.refresh pol l (h.refresh1 pol (hl x (.head _))) fun y hy => hl y (.tail _ hy)
theorem Ok.round (pol : Int) {e : Rd} (h : e.Ok) : (e.round pol).Ok := Ok.draws pol _ (Ok.refresh pol _ h h.p.key)
theorem refresh_cfg (pol : Int) : ∀ (l : List Cand) (e : Rd), (l.foldl (Rd.refresh1 pol) e).s.cfg = e.s.cfg
  | [], _ => rfl
  | x :: l, e => by rw [List.foldl_cons, refresh_cfg pol l]; exact Sp.met_cfg _ _
theorem draw1_cfg (pol : Int) (e : Rd) : (e.draw1 pol).s.cfg = e.s.cfg := by
  unfold Rd.draw1
  split
  · exact (Sp.met_cfg _ _).trans (Sp.swept_cfg _)
  · exact Sp.swept_cfg _
theorem draws_cfg (pol : Int) : ∀ (n : Nat) (e : Rd), (e.draws pol n).s.cfg = e.s.cfg
  | 0, _ => rfl
  | n + 1, e => (draws_cfg pol n _).trans (draw1_cfg pol e)
theorem round_cfg (pol : Int) (e : Rd) : (e.round pol).s.cfg = e.s.cfg := (draws_cfg pol _ _).trans (refresh_cfg pol _ _)
end Rd
end Go.PS
