/-
  Regions whose order is open: where the operations turn nothing of what is known, one walk in the text's order serves every order; so it does where such a part is followed by one that has one order alone.
  Conditions: the program follows 'mixedOrders'; each rule's own.
-/
import Derived.Test.YtopkabhgkhjecaaGreatMem
namespace Go.PS
open Go

section
variable {S : Setup} {ρ : Env} {L : List HP} {ks : List Item} {ops : Array Oper}

theorem upon_of_quiet {P : Program} {K : Kont} {o : Oper} {i : Nat} {rest : List Nat} {a : Act} {w : World} {C : World → Prop} {N : Act → Prop} (ho : ops[i]? = some o) (hC : C w)
    (h : qOp P ops C i N a) (hN : ∀ a' w', C w' → N a' → Runs P K (.inRegion ops rest :: ks) a' w') : Runs P K (.inRegion ops (i :: rest) :: ks) a w := by
  unfold qOp at h
  simp only [ho] at h
  refine runs_op (S := ⟨P, w, K, 0, []⟩) (N := fun a' w' => C w' ∧ N a') ho ?_ (fun a' w' hn => hN a' w' hn.1 hn.2)
  unfold OpA
  split
  · rename_i hw
    rw [if_pos hw] at h
    obtain ⟨v, h1, h2⟩ := h
    have h3 := h1 w hC
    unfold Oper.quietAt at h3
    generalize (execOp a.eval o).run P w = r at *
    cases r with
    | ok n w' =>
      cases n <;> simp only [Oper.quietUpon] at h3 <;> simp only [UponA]
      case value u => obtain ⟨rfl, rfl⟩ := h3; exact ⟨hC, h2⟩
      case skip => obtain ⟨rfl, rfl⟩ := h3; exact ⟨hC, h2⟩
      case enter f args =>
        obtain ⟨rfl, hc⟩ := h3
        exact hc.mono fun e w'' ⟨he, hw''⟩ => by subst he; exact ⟨hw'', h2⟩
    | halt x w' => simp only [Oper.quietUpon] at h3
  · rename_i hw
    rw [if_neg hw] at h
    exact ⟨hC, h⟩

theorem runs_of_wpAnyQ {P : Program} {K : Kont} {C : World → Prop} {Q : Act → Prop} (hQ : ∀ a w, C w → Q a → Runs P K ks a w) : ∀ (fuel t : Nat) (listed : Array Bool) (a : Act) (w : World), C w →
    wpAnyQ P .any ops C Q fuel listed a → Runs P K (.inRegion ops (Region.linearise.go .any ops fuel t listed []) :: ks) a w := by
  intro fuel
  induction fuel with
  | zero =>
    intro t listed a w hC h
    simp only [Region.linearise.go, List.reverse_nil]
    exact (hQ a w hC h.2).step fun _ _ _ => stepR_region_end
  | succ fuel ih =>
    intro t listed a w hC h
    obtain ⟨h₀, h₁⟩ := h
    simp only [Region.linearise.go]
    change Runs P K (.inRegion ops (match (Region.ready .any ops listed)[t % (Region.ready .any ops listed).length]? with
      | some i => Region.linearise.go .any ops fuel (t / (Region.ready .any ops listed).length) (listed.setIfInBounds i true) [i]
      | none => [].reverse) :: ks) a w
    cases hi : (Region.ready .any ops listed)[t % (Region.ready .any ops listed).length]? with
    | none =>
      have hnil : Region.ready .any ops listed = [] := by
        cases hr : Region.ready .any ops listed with
        | nil => rfl
        | cons x xs =>
          rw [hr] at hi
          have hlt : t % (x :: xs).length < (x :: xs).length := Nat.mod_lt _ (by simp)
          simp at hi
          simp at hlt
          omega
      exact (hQ a w hC (h₀ hnil)).step fun _ _ _ => stepR_region_end
    | some i =>
      have hmem := List.mem_of_getElem? hi
      obtain ⟨_, o, ho, _⟩ := mem_ready.1 hmem
      simp only []
      rw [linearise_go_acc, List.reverse_singleton, List.singleton_append]
      exact upon_of_quiet ho hC (h₁ i hmem) fun a' w' hC' hn => ih _ _ a' w' hC' hn

/-- The walk in the text's order, of operations that turn nothing. -/
def RunQ (S : Setup) (ops : Array Oper) (L : List HP) : List Oper → Env → (Env → Prop) → Prop
  | os, ρ, N => ∀ a, Agr a S.n S.ds ρ → wpQuiet S.P ops (fun w => Sat S.G w L) (fun a' => ∃ ρ', Agr a' S.n S.ds ρ' ∧ N ρ') os a

theorem run_quiet {id : Nat} {l : List Oper} (hm : S.P.follows .mixedOrders = true) (hB : Region.lexB .any l.toArray = true) (h : RunQ S l.toArray L l ρ fun ρ' => Run S ks ρ' L) :
    Run S (.code (.region id l.toArray true) :: ks) ρ L := by
  intro a w ha hw
  have h1 := h a ha
  simp only [Region.lexB, Bool.and_eq_true] at hB
  have h2 := wpAnyQ_lex (P := S.P) (C := fun w => Sat S.G w L) (md := .any) hB.1 l 0 (Array.replicate l.toArray.size false) a (by simp) (by simpa using hB.2) h1
  have hsz : l.toArray.size = l.length := by simp
  intro b cs hk
  have hst := stepR_region_draw (P := S.P) (b := b) (a := a) (k := ks) (cs := cs) (w := w) (ops := l.toArray) (id := id)
  have h3 := runs_of_wpAnyQ (P := S.P) (K := S.K) (ks := ks) (C := fun w => Sat S.G w L) (Q := fun a' => ∃ ρ', Agr a' S.n S.ds ρ' ∧ Run S ks ρ' L)
    (fun a' w' hw' ⟨ρ', ha', hr⟩ => hr a' w' ha' hw') l.length (w.tape w.drawn (.order b.fn id)) _ a { w with drawn := w.drawn + 1 } (hw.drawn (w.drawn + 1)) h2
  obtain ⟨m', hd, hs⟩ := h3 b cs hk
  refine ⟨m', hd, .head hst ?_⟩
  simp only [Region.schedule, hm, Bool.true_or, if_true, Region.linearise, hsz]
  exact hs

theorem q_nil {N : Env → Prop} (h : N ρ) : RunQ S ops L [] ρ N := fun _ ha => ⟨ρ, ha, h⟩
theorem q_val {ty : TypeId} {op : Op} {d : Nat} {pos : String} {after : Array Edge} {v : Value} {os : List Oper} {N : Env → Prop} (h : Ev S op ty ρ L v) (hd : Nat.blt d S.n = true) (hn : RunQ S ops L os ((d, v) :: ρ) N) :
    RunQ S ops L (⟨some d, op, ty, pos, after, none⟩ :: os) ρ N := by
  intro a ha
  unfold wpQuiet
  rw [if_pos wanted_none]
  refine ⟨v, fun w hw => ?_, hn _ (ha.put (blt_lt hd) v)⟩
  unfold Oper.quietAt
  rw [h a w _ _ _ _ ha hw]
  exact ⟨rfl, rfl⟩
theorem yielded_of {a : Act} {j t : Nat} {c : Bool} (ha : Agr a S.n S.ds ρ) (hj : (ops[j]?).bind (·.dst) = some t) (hc : look ρ t = some (.bool c)) (ht : Nat.blt t S.n = true) : yielded ops a.tmps j = some c := by
  have hlt : t < a.tmps.size := by rw [ha.size]; exact blt_lt ht
  have := ha.at_ t _ hc
  rw [Array.getD_eq_getD_getElem?, Array.getElem?_eq_getElem hlt, Option.getD_some] at this
  unfold yielded
  rw [hj, Option.bind_some, Array.getElem?_eq_getElem hlt, this]
theorem q_guard {ty : TypeId} {op : Op} {dst : Option Nat} {pos : String} {after : Array Edge} {j t : Nat} {c : Bool} {os : List Oper} {N : Env → Prop}
    (hj : (ops[j]?).bind (·.dst) = some t) (hc : look ρ t = some (.bool c)) (ht : Nat.blt t S.n = true) (h : RunQ S ops L (⟨dst, op, ty, pos, after, none⟩ :: os) ρ N) :
    RunQ S ops L (⟨dst, op, ty, pos, after, some (j, c)⟩ :: os) ρ N := by
  intro a ha
  have h1 := h a ha
  unfold wpQuiet at h1 ⊢
  rw [if_pos wanted_none] at h1
  rw [if_pos (by simp [Region.wanted, yielded_of ha hj hc ht])]
  exact h1
theorem q_skip {ty : TypeId} {op : Op} {d : Nat} {pos : String} {after : Array Edge} {j t : Nat} {c : Bool} {os : List Oper} {N : Env → Prop}
    (hj : (ops[j]?).bind (·.dst) = some t) (hc : look ρ t = some (.bool (!c))) (ht : Nat.blt t S.n = true) (hd : Nat.blt d S.n = true) (hn : RunQ S ops L os ((d, undef) :: ρ) N) :
    RunQ S ops L (⟨some d, op, ty, pos, after, some (j, c)⟩ :: os) ρ N := by
  intro a ha
  unfold wpQuiet
  rw [if_neg (by simp [Region.wanted, yielded_of ha hj hc ht])]
  exact hn _ (ha.put (blt_lt hd) _)
/-- A call that leaves what is known as it was, and hands back what is known beforehand. -/
theorem q_call {ty : TypeId} {f : FuncId} {args : List Operand} {ts : Array TypeId} {vs : List Value} {d : Nat} {v : Value} {pos : String} {after : Array Edge} {os : List Oper} {N : Env → Prop} (hv : evs ρ args = some vs) (hd : Nat.blt d S.n = true) (hb : bodyT S.P f = true)
    (h : Spec S.P S.G f vs L fun u L' => u = v ∧ ∀ w, Sat S.G w L' → Sat S.G w L) (hn : RunQ S ops L os ((d, v) :: ρ) N) :
    RunQ S ops L (⟨some d, .call { callee := .value (.func f), args := args.toArray, argTypes := ts }, ty, pos, after, none⟩ :: os) ρ N := by
  intro a ha
  unfold wpQuiet
  rw [if_pos wanted_none]
  refine ⟨v, fun w hw => ?_, hn _ (ha.put (blt_lt hd) v)⟩
  have e : args.toArray.map a.eval = vs.toArray := Array.ext' (by simpa using evs_map ha hv)
  unfold Oper.quietAt
  simp only [execOp, resolve, e, Act.eval, Deferred.ofValue, Sem.run_bind, Sem.run_pure, Result.andThen_ok, invoke]
  rw [show (#[] ++ vs.toArray ++ #[] : Array Value) = vs.toArray by simp, run_callFunc hb]
  refine ⟨rfl, (h.run w hw).mono ?_⟩
  rintro e w' ⟨u, L', ⟨rfl, hL⟩, rfl, hw'⟩
  exact ⟨rfl, hL w' hw'⟩
theorem q_callE {ty : TypeId} {f : FuncId} {args : List Operand} {ts : Array TypeId} {vs : List Value} {d : Nat} {v : Value} {pos : String} {after : Array Edge} {os : List Oper} {N : Env → Prop} (hv : evs ρ args = some vs) (hd : Nat.blt d S.n = true) (hb : bodyT S.P f = true)
    (h : Spec S.P S.G f vs L fun u L' => u = v ∧ L' = L) (hn : RunQ S ops L os ((d, v) :: ρ) N) :
    RunQ S ops L (⟨some d, .call { callee := .value (.func f), args := args.toArray, argTypes := ts }, ty, pos, after, none⟩ :: os) ρ N :=
  q_call hv hd hb (h.mono fun _ _ ⟨h1, h2⟩ => ⟨h1, fun _ hw => h2 ▸ hw⟩) hn
end
end Go.PS

namespace Go.PS
open Go
section
variable {P : Program} {ops : Array Oper} {md : Region.Mode} {C : World → Prop}

/-- Whatever order is picked of the first 'n', which turn nothing of the class. -/
def AnyHead (P : Program) (md : Region.Mode) (ops : Array Oper) (C : World → Prop) (n : Nat) (T : Array Bool → Act → Prop) : Nat → Array Bool → Act → Prop
  | 0, listed, a => T listed a
  | f + 1, listed, a => Region.ready md ops listed ≠ [] ∧ ∀ i ∈ Region.ready md ops listed, i < n ∧ qOp P ops C i (AnyHead P md ops C n T f (listed.setIfInBounds i true)) a

theorem anyHead_first {n i : Nat} {oi : Oper} {v : Value} {T : Array Bool → Act → Prop} (hi : ops[i]? = some oi) (hsel : ∀ (j : Nat) (o : Oper) cs b, ops[j]? = some o → o.op ≠ .select cs b)
    (hs : Region.sinkB md ops n = true) (hc : Region.chainB md ops n = true) (hn : n < ops.size) (hin : i < n) (hdone : ∀ listed a, T listed a → ∀ j ∈ Region.ready md ops listed, n ≤ j) :
    ∀ (f : Nat) (listed : Array Bool) (a : Act), HeadInv md ops n listed →
      (∀ j oj, ops[j]? = some oj → j ≠ i → listed.getD j true = false → (∀ e ∈ oj.after, Region.binds md e = true → e.on ≠ i) → oi.apart ops oj = true) →
      i ∈ Region.ready md ops listed → YieldsIn P ops C oi v a →
      AnyHead P md ops C n T f (listed.setIfInBounds i true) (a.put oi.dst v) → AnyHead P md ops C n T (f + 1) listed a := by
  intro f
  induction f with
  | zero =>
    intro listed a inv _ hr hy H
    have hun := (mem_ready.1 hr).1
    refine ⟨fun h => (by rw [h] at hr; cases hr), fun j hj => ?_⟩
    have hjn : j < n := by
      rcases Nat.lt_or_ge j n with h | h
      · exact h
      · exact absurd hj (tail_waits hs hc hn inv _ i rfl hin hun j h)
    refine ⟨hjn, ?_⟩
    by_cases hji : j = i
    · subst hji; exact hy.qOp hi H
    · have := hdone _ _ H j (ready_mono hj hji)
      omega
  | succ f ih =>
    intro listed a inv hfree hr hy H
    have hun := (mem_ready.1 hr).1
    refine ⟨fun h => (by rw [h] at hr; cases hr), fun j hj => ?_⟩
    have hjn : j < n := by
      rcases Nat.lt_or_ge j n with h | h
      · exact h
      · exact absurd hj (tail_waits hs hc hn inv _ i rfl hin hun j h)
    refine ⟨hjn, ?_⟩
    by_cases hji : j = i
    · subst hji; exact hy.qOp hi H
    · have h1 := (H.2 j (ready_mono hj hji)).2
      obtain ⟨hjun, oj, hoj, hall⟩ := mem_ready.1 hj
      have hnot : ∀ e ∈ oj.after, Region.binds md e = true → e.on ≠ i := fun e he hb heq => by
        have h1 := hall e he hb
        rw [heq, getD_both hun] at h1
        cases h1
      have h2 := qOp_put hoj (hfree j oj hoj hji hjun hnot) (fun cs b => hsel i oi cs b hi) (fun cs b => hsel j oj cs b hoj) hy h1
      have hfree' : ∀ k ok, ops[k]? = some ok → k ≠ i → (listed.setIfInBounds j true).getD k true = false →
          (∀ e ∈ ok.after, Region.binds md e = true → e.on ≠ i) → oi.apart ops ok = true := fun k ok hk hki hun' hno => by
        refine hfree k ok hk hki ?_ hno
        by_cases hjk : j = k
        · subst hjk; exact hjun
        · rw [getD_set_ne true hjk] at hun'; exact hun'
      refine qOp_mono (fun a' h3 => ih (listed.setIfInBounds j true) a' (inv.set hj hjn) hfree' (ready_mono hr (Ne.symm hji)) h3.1 ?_) h2
      rw [Array.setIfInBounds_comm _ _ hji]
      exact h3.2

theorem anyHead_lex {n g : Nat} {Lq : Act → Prop} (hsel : Region.noSelect ops = true) (hs : Region.sinkB md ops n = true) (hc : Region.chainB md ops n = true) (hn : n < ops.size) :
    ∀ (l : List Oper) (k : Nat) (listed : Array Bool) (a : Act), (∀ j, j < l.length → l[j]? = ops[k + j]?) → k + l.length = n → HeadInv md ops n listed →
    Region.lexHead md ops g l.length k listed = true → wpQuiet P ops C Lq l a →
    AnyHead P md ops C n (fun listed' a' => Region.seqB md ops g n listed' = true ∧ Lq a') l.length listed a
  | [], k, listed, a, _, hk, _, hB, h => by
    have : k = n := by simpa using hk
    subst this
    exact ⟨by simpa [Region.lexHead] using hB, h⟩
  | o :: l, k, listed, a, hl, hk, inv, hB, h => by
    have h0 : ops[k]? = some o := by simpa using (hl 0 (by simp)).symm
    simp only [List.length_cons, Region.lexHead, Bool.and_eq_true] at hB
    obtain ⟨⟨hr, hf⟩, hB'⟩ := hB
    have hkn : k < n := by simp only [List.length_cons] at hk; omega
    have hr' : k ∈ Region.ready md ops listed := by simpa using hr
    have hst : qOp P ops C k (wpQuiet P ops C Lq l) a := by unfold qOp; simp only [h0]; exact h
    obtain ⟨v, hy, hK⟩ := yieldsIn_of_qOp h0 hst
    exact anyHead_first h0 (Region.noSelect_spec hsel) hs hc hn hkn (fun listed' a' hL => seqB_ready hL.1) l.length listed a inv (Region.free_spec h0 hf) hr' hy
      (anyHead_lex hsel hs hc hn l (k + 1) _ _ (fun j hj => by have := hl (j + 1) (by simp; omega); simpa [Nat.add_assoc, Nat.add_comm 1 j] using this) (by simp only [List.length_cons] at hk; omega) (inv.set hr' hkn) hB' hK)

theorem pick_of {listed : Array Bool} {t : Nat} (h : Region.ready .any ops listed ≠ []) : ∃ i, (Region.ready .any ops listed)[t % (Region.ready .any ops listed).length]? = some i ∧ i ∈ Region.ready .any ops listed := by
  have hlt : t % (Region.ready .any ops listed).length < (Region.ready .any ops listed).length := Nat.mod_lt _ (List.length_pos_iff.2 h)
  exact ⟨_, List.getElem?_eq_getElem hlt, List.getElem_mem hlt⟩
theorem go_pick {fuel t i : Nat} {listed : Array Bool} (h : (Region.ready .any ops listed)[t % (Region.ready .any ops listed).length]? = some i) :
    Region.linearise.go .any ops (fuel + 1) t listed [] = i :: Region.linearise.go .any ops fuel (t / (Region.ready .any ops listed).length) (listed.setIfInBounds i true) [] := by
  simp only [Region.linearise.go]
  change (match (Region.ready .any ops listed)[t % (Region.ready .any ops listed).length]? with
      | some i => Region.linearise.go .any ops fuel (t / (Region.ready .any ops listed).length) (listed.setIfInBounds i true) [i]
      | none => [].reverse) = _
  rw [h]
  simp only []
  rw [linearise_go_acc, List.reverse_singleton, List.singleton_append]

theorem runs_of_anyHead {K : Kont} {ks : List Item} {n g : Nat} {T : Array Bool → Act → Prop} (hT : ∀ t listed a w, C w → T listed a → Runs P K (.inRegion ops (Region.linearise.go .any ops g t listed []) :: ks) a w) :
    ∀ (f t : Nat) (listed : Array Bool) (a : Act) (w : World), C w → AnyHead P .any ops C n T f listed a → Runs P K (.inRegion ops (Region.linearise.go .any ops (f + g) t listed []) :: ks) a w
  | 0, t, listed, a, w, hC, h => by rw [Nat.zero_add]; exact hT t listed a w hC h
  | f + 1, t, listed, a, w, hC, h => by
    rw [show f + 1 + g = (f + g) + 1 by omega]
    obtain ⟨i, hi, hmem⟩ := pick_of (t := t) h.1
    rw [go_pick hi]
    obtain ⟨_, o, ho, _⟩ := mem_ready.1 hmem
    exact upon_of_quiet ho hC (h.2 i hmem).2 fun a' w' hC' hn => runs_of_anyHead hT f _ _ a' w' hC' hn

theorem seq_go : ∀ (g k t : Nat) (listed : Array Bool), Region.seqB .any ops g k listed = true → Region.linearise.go .any ops g t listed [] = List.range' k g
  | 0, _, _, _, _ => by simp [Region.linearise.go]
  | g + 1, k, t, listed, h => by
    simp only [Region.seqB, Bool.and_eq_true, decide_eq_true_eq] at h
    have hp : (Region.ready .any ops listed)[t % (Region.ready .any ops listed).length]? = some k := by rw [h.1]; simp [Nat.mod_one]
    rw [go_pick hp, List.range'_succ, seq_go g (k + 1) _ _ h.2]
end

section
variable {S : Setup} {ρ : Env} {L : List HP} {ks : List Item}
/-- A region whose first 'n' operations turn nothing and whose others have one order. -/
theorem run_tail {id : Nat} {l : List Oper} (n : Nat) (hm : S.P.follows .mixedOrders = true) (hB : Region.lexTailB .any l.toArray n = true)
    (h : RunQ S l.toArray L (l.take n) ρ fun ρ' => RunOps S l.toArray (l.drop n) ks ρ' L) : Run S (.code (.region id l.toArray true) :: ks) ρ L := by
  intro a w ha hw b cs hk
  simp only [Region.lexTailB, Bool.and_eq_true, decide_eq_true_eq] at hB
  obtain ⟨⟨⟨⟨hsel, hn⟩, hs⟩, hc⟩, hlex⟩ := hB
  have hn' : n < l.length := by simpa using hn
  have htl : (l.take n).length = n := by simp; omega
  have hdl : (l.drop n).length = l.toArray.size - n := by simp
  have inv0 : HeadInv .any l.toArray n (Array.replicate l.toArray.size false) :=
    ⟨by simp, fun j oj _ hl => (by rw [getD_replicate_false] at hl; cases hl), fun t _ ht => getD_in (by simpa using ht) (getD_replicate_false _ _)⟩
  have H := anyHead_lex (P := S.P) (C := fun w => Sat S.G w L) (md := .any) (g := l.toArray.size - n) hsel hs hc hn (l.take n) 0 _ a (fun j hj => by
    have hj' : j < n := by rw [htl] at hj; exact hj
    simp [hj']) (by simpa using htl) inv0 (by rw [htl]; exact hlex) (h a ha)
  have hst := stepR_region_draw (P := S.P) (b := b) (a := a) (k := ks) (cs := cs) (w := w) (ops := l.toArray) (id := id)
  have h3 := runs_of_anyHead (P := S.P) (K := S.K) (ks := ks) (g := l.toArray.size - n) (fun t listed a' w' hC' hT => by
    obtain ⟨hq, ρ', ha', hr⟩ := hT
    rw [seq_go _ n t listed hq, ← hdl]
    exact run_ops (l.drop n) n (fun j => by simp [List.getElem?_drop]) hr a' w' ha' hC') (l.take n).length (w.tape w.drawn (.order b.fn id)) _ a { w with drawn := w.drawn + 1 } (hw.drawn (w.drawn + 1)) H
  obtain ⟨m', hd, hss⟩ := h3 b cs hk
  refine ⟨m', hd, .head hst ?_⟩
  rw [htl, show n + (l.toArray.size - n) = l.toArray.size by simp; omega] at hss
  simp only [Region.schedule, hm, Bool.true_or, if_true, Region.linearise]
  exact hss
end
end Go.PS
