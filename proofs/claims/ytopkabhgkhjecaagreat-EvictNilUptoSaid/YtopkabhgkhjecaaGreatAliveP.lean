/-
  What stays there while others are met, swept, offered; a round leaves a candidate.
  Conditions: each lemma's own.
-/
import Derived.Test.YtopkabhgkhjecaaGreatEvictX
namespace Go.PS
open Go Go.Proofs Go.Shelf
set_option maxRecDepth 10000

namespace Sp
variable {α : Type} {s : Sp α}
def alive (s : Sp α) (k : ByteArray) : Prop := k ∈ s.main.keys ∧ s.past (s.ent k).at_ = false
theorem Ok.there_iff (ok : s.Ok) {k : ByteArray} : s.there k = true ↔ s.alive k := by
  unfold Sp.there alive
  rw [Bool.and_eq_true, ok.has_iff, Bool.not_eq_true']
theorem met_ent (s : Sp α) (k : ByteArray) : (s.met k).ent = s.ent := by unfold Sp.met; split <;> rfl
theorem met_now (s : Sp α) (k : ByteArray) : (s.met k).now = s.now := by unfold Sp.met; split <;> rfl
theorem past_eq {s s' : Sp α} (h : s'.now = s.now) (a : Int) : s'.past a = s.past a := by unfold Sp.past; rw [h]
theorem Ok.met_keys (ok : s.Ok) (hv : s.vol ≤ 1099511627776) (k : ByteArray) {q : ByteArray} : q ∈ (s.met k).main.keys ↔ q ∈ s.main.keys ∧ (q = k → s.past (s.ent k).at_ = false) := by
  unfold Sp.met
  have hn : s.stepped.main.n ≤ 1099511627776 := (ok.stepped.bound (by rw [stepped_vol]; exact hv)).1
  split
  · rename_i hc
    simp only [Bool.and_eq_true] at hc
    show q ∈ (s.stepped.main.delete k).keys ↔ _
    rw [ok.stepped.wm.mem_del hn]
    show q ∈ s.main.step.keys ∧ q ≠ k ↔ _
    rw [ok.wm.mem_step, hc.2]
    simp
  · rename_i hc
    show q ∈ s.main.step.keys ↔ _
    rw [ok.wm.mem_step]
    constructor
    · intro hq
      refine ⟨hq, fun e => ?_⟩
      subst e
      have := ok.has_iff.2 hq
      rw [this] at hc
      simpa using hc
    · exact fun h => h.1
theorem alive.met (ok : s.Ok) (hv : s.vol ≤ 1099511627776) {k : ByteArray} (h : s.alive k) (q : ByteArray) : (s.met q).alive k := by
  refine ⟨(ok.met_keys hv q).2 ⟨h.1, fun e => e ▸ h.2⟩, ?_⟩
  rw [met_ent, past_eq (met_now s q)]; exact h.2
theorem sweeps_keys : ∀ (l : List ByteArray) {c : Sp α}, c.Ok → c.vol ≤ 1099511627776 → (∀ k ∈ l, k ∈ c.main.keys) → l.Nodup →
    ((∀ q, q ∈ (l.foldl Sp.expires c).main.keys ↔ q ∈ c.main.keys ∧ q ∉ l) ∧ (l.foldl Sp.expires c).ent = c.ent ∧ (l.foldl Sp.expires c).now = c.now)
  | [], c, _, _, _, _ => ⟨by simp, rfl, rfl⟩
  | k :: l, c, ok, hv, hm, hn => by
    rw [List.nodup_cons] at hn
    have he := ok.expires hv (hm k (.head _))
    have hk : ∀ q, q ∈ (c.expires k).main.keys ↔ q ∈ c.main.keys ∧ q ≠ k := fun q => by
      show q ∈ (c.main.delete k).keys ↔ _
      rw [ok.wm.mem_del (ok.bound hv).1]
    have ih := sweeps_keys l (c := c.expires k) he.1 (by omega) (fun q hq => (hk q).2 ⟨hm q (.tail _ hq), fun e => hn.1 (e ▸ hq)⟩) hn.2
    rw [List.foldl_cons]
    refine ⟨fun q => ?_, ih.2.1, ih.2.2⟩
    rw [ih.1 q, hk q, List.mem_cons, not_or]
    exact ⟨fun ⟨⟨a, b⟩, c⟩ => ⟨a, b, c⟩, fun ⟨a, b, c⟩ => ⟨⟨a, b⟩, c⟩⟩
theorem dues_keys (ok : s.Ok) : ∀ k ∈ s.dues, k ∈ s.main.keys := fun k hk => ((ok.sub k).1 (dues_mem.1 hk).1).1
theorem dues_len (ok : s.Ok) (hv : s.vol ≤ 1099511627776) : s.dues.length ≤ 1099511627776 := by
  have h1 := D.nodup_len (dues_nodup ok) (dues_keys ok)
  have h2 := (ok.bound hv).1
  rw [ok.wm.n_keys] at h2
  omega
theorem swept_eq (ok : s.Ok) (hv : s.vol ≤ 1099511627776) : s.swept = s.dues.foldl Sp.expires s := by
  unfold Sp.swept Sp.sweep
  rw [if_neg (by decide), List.take_of_length_le]
  have := dues_len ok hv
  omega
theorem Ok.swept (ok : s.Ok) (hv : s.vol ≤ 1099511627776) : s.swept.Ok ∧ s.swept.vol ≤ s.vol := ok.sweep hv 9223372036854775807
theorem swept_keys (ok : s.Ok) (hv : s.vol ≤ 1099511627776) : (∀ q, q ∈ s.swept.main.keys ↔ s.alive q) ∧ s.swept.ent = s.ent ∧ s.swept.now = s.now := by
  rw [swept_eq ok hv]
  have h := sweeps_keys s.dues ok hv (dues_keys ok) (dues_nodup ok)
  refine ⟨fun q => ?_, h.2⟩
  rw [h.1 q, dues_mem]
  unfold alive
  constructor
  · rintro ⟨h1, h2⟩
    refine ⟨h1, ?_⟩
    cases hp : s.past (s.ent q).at_ with
    | false => rfl
    | true =>
      refine absurd ⟨(ok.sub q).2 ⟨h1, ?_⟩, hp⟩ h2
      unfold Sp.past at hp
      exact (of_decide_eq_true hp).1
  · rintro ⟨h1, h2⟩
    refine ⟨h1, fun h3 => ?_⟩
    rw [h2] at h3; cases h3.2
theorem alive.swept (ok : s.Ok) (hv : s.vol ≤ 1099511627776) {k : ByteArray} (h : s.alive k) : s.swept.alive k := by
  obtain ⟨h1, h2, h3⟩ := swept_keys ok hv
  exact ⟨(h1 k).2 h, by rw [h2, past_eq h3]; exact h.2⟩
theorem swept_alive (ok : s.Ok) (hv : s.vol ≤ 1099511627776) {k : ByteArray} (h : k ∈ s.swept.main.keys) : s.swept.alive k := ((swept_keys ok hv).1 k).1 h |>.swept ok hv
end Sp

namespace Rd
/-- Something that can be drawn. -/
def Src (pol : Int) (s : Sp Unit) (k : ByteArray) : Prop := s.alive k ∧ (pol = 1 ∨ 0 < (s.ent k).at_)
theorem Src.sampled {pol : Int} {s : Sp Unit} {k : ByteArray} (h : Src pol s k) (ok : s.Ok) (hv : s.vol ≤ 1099511627776) (r : Nat) : ∃ q, s.sampled (decide (pol = 1)) r = some q := by
  have ok2 := ok.swept hv
  have hs := h.1.swept ok hv
  unfold Sp.sampled
  by_cases hp : pol = 1
  · rw [if_pos (decide_eq_true hp)]
    have : s.swept.main.n ≠ 0 := by
      rw [ok2.1.wm.n_keys]
      exact fun e => by have h1 := hs.1; rw [List.length_eq_zero_iff.1 e] at h1; cases h1
    obtain ⟨q, hq, _⟩ := ok2.1.wm.sample_some this r
    exact ⟨q, hq⟩
  · rw [if_neg (by simp [hp])]
    have hl : k ∈ s.swept.late.keys := (ok2.1.sub k).2 ⟨hs.1, by rw [(Sp.swept_keys ok hv).2.1]; exact h.2.resolve_left hp⟩
    have : s.swept.late.n ≠ 0 := by
      rw [ok2.1.wl.n_keys]
      exact fun e => by rw [List.length_eq_zero_iff.1 e] at hl; cases hl
    obtain ⟨q, hq, _⟩ := ok2.1.wl.sample_some this r
    exact ⟨q, hq⟩
theorem Src.of_sampled {pol : Int} {s : Sp Unit} {k : ByteArray} {r : Nat} (ok : s.Ok) (hv : s.vol ≤ 1099511627776) (h : s.sampled (decide (pol = 1)) r = some k) : Src pol s.swept k := by
  have h1 := ok.sampled hv h
  have ok2 := ok.swept hv
  refine ⟨Sp.swept_alive ok hv h1.1, ?_⟩
  unfold Sp.sampled at h
  by_cases hp : pol = 1
  · exact .inl hp
  · rw [if_neg (by simp [hp])] at h
    have := D.sample_mem h
    rw [ok2.1.wl.all_eq] at this
    exact .inr ((ok2.1.sub k).1 this).2
theorem Src.met {pol : Int} {s : Sp Unit} {k : ByteArray} (h : Src pol s k) (ok : s.Ok) (hv : s.vol ≤ 1099511627776) (q : ByteArray) : Src pol (s.met q) k := ⟨h.1.met ok hv q, by rw [Sp.met_ent]; exact h.2⟩
theorem Src.swept {pol : Int} {s : Sp Unit} {k : ByteArray} (h : Src pol s k) (ok : s.Ok) (hv : s.vol ≤ 1099511627776) : Src pol s.swept k := ⟨h.1.swept ok hv, by rw [(Sp.swept_keys ok hv).2.1]; exact h.2⟩
theorem offer_mem {p : Pl} {x y : Cand} (h : y ∈ (p.offer x).1.row) : y = x ∨ (y ∈ p.row ∧ y.1 ≠ x.1) := by
  have hm : ∀ y, y ∈ sortC (dropK p.row x.1 ++ [x]) → y = x ∨ (y ∈ p.row ∧ y.1 ≠ x.1) := by
    intro y hy
    rw [sortC_mem, List.mem_append, List.mem_singleton] at hy
    rcases hy with hy | rfl
    · exact .inr (dropK_mem.1 hy)
    · exact .inl rfl
  unfold Pl.offer at h
  simp only at h
  split at h
  · exact hm y h
  · exact hm y (List.mem_of_mem_take h)
theorem offer_ne {p : Pl} (x : Cand) (h : 1 ≤ p.most) : (p.offer x).1.row ≠ [] := by
  have hl : (sortC (dropK p.row x.1 ++ [x])).length = (dropK p.row x.1).length + 1 := by rw [sortC_len]; simp
  intro e
  have he := congrArg List.length e
  unfold Pl.offer at he
  simp only at he
  split at he
  · simp only [hl, List.length_nil] at he; omega
  · simp only [List.length_take, hl, List.length_nil] at he
    omega
theorem offer_most (p : Pl) (x : Cand) : (p.offer x).1.most = p.most := by unfold Pl.offer; simp only; split <;> rfl
/-- What is known of a rank that there is. -/
theorem rank_there {pol : Int} {s : Sp Unit} {k : ByteArray} (h : (s.rank pol k).2 = true) : s.there k = true := by
  unfold Sp.rank at h
  split at h
  · exact h
  · exact (Bool.and_eq_true_iff.1 h).1
/-- All candidates are there, but those still to be looked at. -/
def Fresh (e : Rd) (l : List ByteArray) : Prop := ∀ y ∈ e.p.row, y.1 ∈ l ∨ e.s.alive y.1
theorem Fresh.refresh1 {pol : Int} {e : Rd} {x : Cand} {l : List ByteArray} (h : e.Ok) (hf : Fresh e (x.1 :: l)) : Fresh (e.refresh1 pol x) l := by
  intro y hy
  show _ ∨ (e.s.met x.1).alive y.1
  unfold Rd.refresh1 at hy
  simp only at hy
  split at hy
  · rename_i hr
    rcases offer_mem hy with rfl | ⟨hy, hne⟩
    · exact .inr ((h.s.there_iff.1 (rank_there hr)).met h.s h.v _)
    · rcases hf y hy with h1 | h1
      · exact .inl ((List.mem_cons.1 h1).resolve_left hne)
      · exact .inr (h1.met h.s h.v _)
  · have hy' := dropK_mem.1 hy
    rcases hf y hy'.1 with h1 | h1
    · exact .inl ((List.mem_cons.1 h1).resolve_left hy'.2)
    · exact .inr (h1.met h.s h.v _)
theorem Fresh.refresh (pol : Int) : ∀ (l : List Cand) {e : Rd}, e.Ok → (∀ x ∈ l, x.1.size ≤ 1048576) → Fresh e (l.map (·.1)) → Fresh (l.foldl (Rd.refresh1 pol) e) []
  | [], _, _, _, hf => hf
  | x :: l, _, h, hl, hf => Fresh.refresh pol l (h.refresh1 pol (hl x (.head _))) (fun y hy => hl y (.tail _ hy)) (Fresh.refresh1 h hf)
theorem Src.refresh (pol : Int) {k : ByteArray} : ∀ (l : List Cand) {e : Rd}, e.Ok → (∀ x ∈ l, x.1.size ≤ 1048576) → Src pol e.s k → Src pol (l.foldl (Rd.refresh1 pol) e).s k
  | [], _, _, _, hf => hf
  | x :: l, _, h, hl, hf => Src.refresh pol l (h.refresh1 pol (hl x (.head _))) (fun y hy => hl y (.tail _ hy)) (hf.met h.s h.v _)
theorem refresh_most (pol : Int) : ∀ (l : List Cand) (e : Rd), (l.foldl (Rd.refresh1 pol) e).p.most = e.p.most
  | [], _ => rfl
  | x :: l, e => by
    rw [List.foldl_cons, refresh_most pol l]
    unfold Rd.refresh1
    simp only
    split
    · exact offer_most _ _
    · rfl
theorem draw1_most (pol : Int) (e : Rd) : (e.draw1 pol).p.most = e.p.most := by
  unfold Rd.draw1
  split
  · exact offer_most _ _
  · rfl
theorem Fresh.draw1 {pol : Int} {e : Rd} (h : e.Ok) (hf : Fresh e []) : Fresh (e.draw1 pol) [] := by
  have ok2 := h.s.swept h.v
  have hv2 : e.s.swept.vol ≤ 1099511627776 := Nat.le_trans ok2.2 h.v
  intro y hy
  right
  cases hk : e.s.sampled (decide (pol = 1)) (nextD e.ds).toNat with
  | none =>
    rw [draw1_N hk] at hy ⊢
    exact ((hf y hy).resolve_left (by simp)).swept h.s h.v
  | some k =>
    rw [draw1_S hk] at hy ⊢
    rcases offer_mem hy with rfl | ⟨hy, _⟩
    · exact (Src.of_sampled h.s h.v hk).1.met ok2.1 hv2 _
    · exact (((hf y hy).resolve_left (by simp)).swept h.s h.v).met ok2.1 hv2 _
theorem Src.draw1 {pol : Int} {e : Rd} {k : ByteArray} (h : e.Ok) (hs : Src pol e.s k) : Src pol (e.draw1 pol).s k := by
  have ok2 := h.s.swept h.v
  have hv2 : e.s.swept.vol ≤ 1099511627776 := Nat.le_trans ok2.2 h.v
  unfold Rd.draw1
  split
  · exact (hs.swept h.s h.v).met ok2.1 hv2 _
  · exact hs.swept h.s h.v
theorem draw1_ne {pol : Int} {e : Rd} {k : ByteArray} (h : e.Ok) (hs : Src pol e.s k) (hm : 1 ≤ e.p.most) : (e.draw1 pol).p.row ≠ [] := by
  obtain ⟨q, hq⟩ := hs.sampled h.s h.v (nextD e.ds).toNat
  rw [draw1_S hq]
  exact offer_ne _ hm
theorem draws_all (pol : Int) {k : ByteArray} : ∀ (n : Nat) {e : Rd}, e.Ok → Fresh e [] → Src pol e.s k → 1 ≤ e.p.most → Fresh (e.draws pol n) [] ∧ Src pol (e.draws pol n).s k ∧ (1 ≤ n → (e.draws pol n).p.row ≠ [])
  | 0, _, _, hf, hs, _ => ⟨hf, hs, fun h => absurd h (by decide)⟩
  | n + 1, e, h, hf, hs, hm => by
    have ih := draws_all pol n (e := e.draw1 pol) (h.draw1 pol) (hf.draw1 h) (hs.draw1 h) (by rw [draw1_most]; exact hm)
    refine ⟨ih.1, ih.2.1, fun _ => ?_⟩
    cases n with
    | zero => exact draw1_ne h hs hm
    | succ n => exact ih.2.2 (by omega)
theorem round_all {pol : Int} {e : Rd} {k : ByteArray} (h : e.Ok) (hs : Src pol e.s k) (hm : 1 ≤ e.p.most) (hq : 1 ≤ e.s.cfg.samples) : Fresh (e.round pol) [] ∧ Src pol (e.round pol).s k ∧ (e.round pol).p.row ≠ [] := by
  have h1 := Ok.refresh pol e.p.row h h.p.key
  have h2 : Fresh e (e.p.row.map (·.1)) := fun y hy => .inl (List.mem_map.2 ⟨y, hy, rfl⟩)
  have := draws_all pol e.s.cfg.samples.toNat h1 (h2.refresh pol e.p.row h h.p.key) (hs.refresh pol e.p.row h h.p.key) (by rw [refresh_most]; exact hm)
  exact ⟨this.1, this.2.1, this.2.2 (by omega)⟩

/-! ### How many there are -/
theorem n_le {s s' : Sp Unit} (ok : s.Ok) (ok' : s'.Ok) (h : ∀ q, q ∈ s'.main.keys → q ∈ s.main.keys) : s'.main.n ≤ s.main.n := by
  rw [ok.wm.n_keys, ok'.wm.n_keys]; exact D.nodup_len ok'.wm.uniq h
theorem met_n {s : Sp Unit} (ok : s.Ok) (hv : s.vol ≤ 1099511627776) (q : ByteArray) : (s.met q).main.n ≤ s.main.n := n_le ok (ok.met hv q).1 fun k hk => ((ok.met_keys hv q).1 hk).1
theorem swept_n {s : Sp Unit} (ok : s.Ok) (hv : s.vol ≤ 1099511627776) : s.swept.main.n ≤ s.main.n := n_le ok (ok.swept hv).1 fun k hk => (((Sp.swept_keys ok hv).1 k).1 hk).1
theorem refresh_n (pol : Int) : ∀ (l : List Cand) {e : Rd}, e.Ok → (∀ x ∈ l, x.1.size ≤ 1048576) → (l.foldl (Rd.refresh1 pol) e).s.main.n ≤ e.s.main.n
  | [], _, _, _ => Nat.le_refl _
  | x :: l, e, h, hl => by
    have h1 := refresh_n pol l (h.refresh1 pol (hl x (.head _))) (fun y hy => hl y (.tail _ hy))
    have h2 : (e.refresh1 pol x).s.main.n ≤ e.s.main.n := met_n h.s h.v _
    rw [List.foldl_cons]
    omega
theorem draw1_n {pol : Int} {e : Rd} (h : e.Ok) : (e.draw1 pol).s.main.n ≤ e.s.main.n := by
  have ok2 := h.s.swept h.v
  have h1 := swept_n h.s h.v
  unfold Rd.draw1
  split
  · have := met_n ok2.1 (Nat.le_trans ok2.2 h.v) (‹_› : ByteArray)
    simp only
    omega
  · exact h1
theorem draws_n (pol : Int) : ∀ (n : Nat) {e : Rd}, e.Ok → (e.draws pol n).s.main.n ≤ e.s.main.n
  | 0, _, _ => Nat.le_refl _
  | n + 1, e, h => Nat.le_trans (draws_n pol n (h.draw1 pol)) (draw1_n h)
theorem round_n (pol : Int) {e : Rd} (h : e.Ok) : (e.round pol).s.main.n ≤ e.s.main.n :=
  Nat.le_trans (draws_n pol _ (Ok.refresh pol _ h h.p.key)) (refresh_n pol _ h h.p.key)
theorem evict_n {s : Sp Unit} (ok : s.Ok) (hv : s.vol ≤ 1099511627776) {k : ByteArray} (h : s.alive k) : (s.evict k).main.n + 1 = s.main.n := by
  have ht := ok.there_iff.2 h
  have hm := ok.met hv k
  unfold Sp.evict
  rw [if_pos ht]
  show ((s.met k).main.delete k).n + 1 = s.main.n
  rw [hm.1.wm.del_n (hm.1.bound (by omega)).1 (ok.there_mem ht).2, Sp.met_there ok ht]
  show s.main.step.n = _
  rw [D.step_n]
theorem evict_cfg (s : Sp Unit) (k : ByteArray) : (s.evict k).cfg = s.cfg := by
  unfold Sp.evict
  split
  · exact Sp.met_cfg _ _
  · exact Sp.met_cfg _ _
theorem round_most (pol : Int) (e : Rd) : (e.round pol).p.most = e.p.most := by
  have : ∀ (n : Nat) (e : Rd), (e.draws pol n).p.most = e.p.most := fun n => by
    induction n with
    | zero => exact fun _ => rfl
    | succ n ih => exact fun e => (ih _).trans (draw1_most _ _)
  exact (this _ _).trans (refresh_most _ _ _)

/-- One eviction: swept, a round, the soonest goes. -/
noncomputable def evict1 (pol : Int) (e : Rd) (x : Cand) (t : List Cand) : Rd :=
  ⟨(({ e with s := e.s.swept } : Rd).round pol).s.evict x.1, { (({ e with s := e.s.swept } : Rd).round pol).p with row := t }, (({ e with s := e.s.swept } : Rd).round pol).ds⟩
/-- Evicting until it fits. -/
inductive Enf (pol most : Int) : Rd → Int → Rd → Int → Int → Prop
  | done {e : Rd} {c : Int} : e.s.used ≤ most → Enf pol most e c e c 0
  | bare {e : Rd} {c : Int} : most < e.s.used → ¬ (pol = 1 ∨ pol = 2) → Enf pol most e c e c 4
  | none {e : Rd} {c : Int} : most < e.s.used → (pol = 1 ∨ pol = 2) → e.s.sampled (decide (pol = 1)) 0 = none → Enf pol most e c { e with s := e.s.swept } c 4
  | step {e e' : Rd} {c c' r : Int} {k : ByteArray} {x : Cand} {t : List Cand} : most < e.s.used → (pol = 1 ∨ pol = 2) → e.s.sampled (decide (pol = 1)) 0 = some k →
      (({ e with s := e.s.swept } : Rd).round pol).p.row = x :: t → Enf pol most (e.evict1 pol x t) (c + 1) e' c' r → Enf pol most e c e' c' r
theorem Ok.sweptR {e : Rd} (h : e.Ok) : Rd.Ok { e with s := e.s.swept } := ⟨(h.s.swept h.v).1, Nat.le_trans (h.s.swept h.v).2 h.v, h.p, h.d⟩
theorem Ok.evict1 {pol : Int} {e : Rd} (h : e.Ok) {x : Cand} {t : List Cand} (hx : (({ e with s := e.s.swept } : Rd).round pol).p.row = x :: t) : (e.evict1 pol x t).Ok := by
  have h1 := Ok.round pol h.sweptR
  have h2 := h1.s.evict h1.v x.1
  refine ⟨h2.1, Nat.le_trans h2.2 h1.v, ⟨h1.p.lo, h1.p.hi, ?_, fun y hy => h1.p.key y (by rw [hx]; exact .tail _ hy)⟩, h1.d⟩
  have := h1.p.len
  rw [hx, List.length_cons] at this
  show (t.length : Int) ≤ (({ e with s := e.s.swept } : Rd).round pol).p.most
  omega
theorem evict1_cfg (pol : Int) (e : Rd) (x : Cand) (t : List Cand) : (e.evict1 pol x t).s.cfg = e.s.cfg := (evict_cfg _ _).trans ((round_cfg _ _).trans (Sp.swept_cfg _))
theorem evict1_most (pol : Int) (e : Rd) (x : Cand) (t : List Cand) : (e.evict1 pol x t).p.most = e.p.most := round_most pol _
theorem evict1_all {pol : Int} {e : Rd} (h : e.Ok) (hm : 1 ≤ e.p.most) (hq : 1 ≤ e.s.cfg.samples) {k : ByteArray} (hk : e.s.sampled (decide (pol = 1)) 0 = some k) :
    ∃ x t, (({ e with s := e.s.swept } : Rd).round pol).p.row = x :: t ∧ x.1.size ≤ 1048576 ∧ (e.evict1 pol x t).s.main.n + 1 ≤ e.s.main.n := by
  have hs := Src.of_sampled h.s h.v hk
  have hall := round_all (pol := pol) h.sweptR hs hm (by rw [show (({ e with s := e.s.swept } : Rd).s.cfg) = e.s.cfg from Sp.swept_cfg _]; exact hq)
  have hok := Ok.round pol h.sweptR
  cases hr : (({ e with s := e.s.swept } : Rd).round pol).p.row with
  | nil => exact absurd hr hall.2.2
  | cons x t =>
    refine ⟨x, t, rfl, hok.p.key x (by rw [hr]; exact .head _), ?_⟩
    have hx := (hall.1 x (by rw [hr]; exact .head _)).resolve_left (by simp)
    have h1 := evict_n hok.s hok.v hx
    have h2 := round_n pol h.sweptR
    have h3 := swept_n h.s h.v
    show ((({ e with s := e.s.swept } : Rd).round pol).s.evict x.1).main.n + 1 ≤ _
    simp only at h2
    omega
end Rd
end Go.PS
