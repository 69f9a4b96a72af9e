/-
  Regions that draw their order, walked with the quiet operations first: an operation whose value is the same in every world where 'Lq' is known may be taken as early as it may come up; the others are walked in every order that is left.
  Conditions: each rule's own.
-/
import Derived.Test.YtopkabhgkhjecaaGreatLoops
namespace Go.PS
open Go

section
variable {S : Setup} {ops : Array Oper} {C : World → Prop} {N : Act → World → Prop}

/-- Each listed operation with an outcome has one behind it that waits for it and is listed. -/
def settled (ops : Array Oper) (listed : Array Bool) : Bool :=
  (List.range ops.size).all fun i => !(listed.getD i false) || ((ops[i]?).bind (·.dst)).isNone ||
    (List.range ops.size).any fun j => listed.getD j false && (match ops[j]? with | some o => o.after.toList.any (fun e => Region.binds .any e && e.on == i) | none => false)
def Cl (ops : Array Oper) (listed : Array Bool) : Prop := ∀ (j : Nat) (oj : Oper), ops[j]? = some oj → listed.getD j false = true → ∀ e ∈ oj.after, Region.binds .any e = true → listed.getD e.on false = true
theorem Cl.set {listed : Array Bool} {i : Nat} (h : Cl ops listed) (hi : i ∈ Region.ready .any ops listed) : Cl ops (listed.setIfInBounds i true) := by
  obtain ⟨_, oi, hoi, hall⟩ := mem_ready.1 hi
  intro j oj hj hl e he hb
  by_cases hij : i = j
  · subst hij
    rw [hoi] at hj
    injection hj with hj
    subst hj
    exact getD_set_true (hall e he hb)
  · rw [getD_set_ne false hij] at hl
    exact getD_set_true (h j oj hj hl e he hb)
theorem settled_not {listed : Array Bool} {i : Nat} {oi : Oper} {d : Nat} (hcl : Cl ops listed) (hr : i ∈ Region.ready .any ops listed) (hi : ops[i]? = some oi) (hd : oi.dst = some d) (h : settled ops (listed.setIfInBounds i true) = true) : False := by
  obtain ⟨hun, o', ho', hall⟩ := mem_ready.1 hr
  have hlt : i < ops.size := (Array.getElem?_eq_some_iff.1 hi).1
  have hin : i < listed.size := by
    rcases Nat.lt_or_ge i listed.size with h' | h'
    · exact h'
    · simp [Array.getElem?_eq_none h'] at hun
  have hun' := getD_both hun
  unfold settled at h
  rw [List.all_eq_true] at h
  have h1 := h i (List.mem_range.2 hlt)
  simp only [hi, Option.bind_some, hd, Option.isNone_some, Bool.or_false, Bool.or_eq_true, Bool.not_eq_true', List.any_eq_true, Bool.and_eq_true] at h1
  rcases h1 with h1 | ⟨j, _, hj, hw⟩
  · simp [hin] at h1
  · split at hw
    · rename_i oj hoj
      rw [List.any_eq_true] at hw
      obtain ⟨e, he, hbe⟩ := hw
      simp only [Bool.and_eq_true, beq_iff_eq] at hbe
      obtain ⟨hb, hon⟩ := hbe
      have he' : e ∈ oj.after := by simpa using he
      by_cases hij : i = j
      · subst hij
        rw [hi] at hoj ho'
        injection hoj with hoj
        injection ho' with ho'
        subst hoj ho'
        have := hall e he' hb
        rw [hon, hun'] at this
        cases this
      · rw [getD_set_ne false hij] at hj
        have := hcl j oj hoj hj e he' hb
        rw [hon, hun'] at this
        cases this
    · cases hw

def AnyS (S : Setup) (ops : Array Oper) (C : World → Prop) (N : Act → World → Prop) : Nat → Array Bool → Act → World → Prop
  | 0, listed, a, w => (settled ops listed = true ∨ C w) ∧ Region.ready .any ops listed = [] ∧ N a w
  | f + 1, listed, a, w => (settled ops listed = true ∨ C w) ∧ Region.ready .any ops listed ≠ [] ∧ ∀ i ∈ Region.ready .any ops listed, ∃ o, ops[i]? = some o ∧ OpA S ops o a w (AnyS S ops C N f (listed.setIfInBounds i true))
theorem AnyS.c {f : Nat} {listed : Array Bool} {a : Act} {w : World} (h : AnyS S ops C N f listed a w) : settled ops listed = true ∨ C w := by
  cases f with
  | zero => exact h.1
  | succ f => exact h.1

/-- In this state, in every world of the class, the operation yields 'v' and turns nothing. -/
def PureIn (S : Setup) (ops : Array Oper) (C : World → Prop) (o : Oper) (v : Value) (a : Act) : Prop :=
  (Region.wanted o (yielded ops a.tmps) = true ∧ ∀ w, C w → (execOp a.eval o).run S.P w = .ok (.value v) w) ∨ (Region.wanted o (yielded ops a.tmps) = false ∧ v = undef)

theorem PureIn.op {o : Oper} {v : Value} {a : Act} {w : World} {K : Act → World → Prop} (hy : PureIn S ops C o v a) (hC : C w) (h : K (a.put o.dst v) w) : OpA S ops o a w K := by
  unfold OpA
  rcases hy with ⟨h1, h2⟩ | ⟨h1, rfl⟩
  · rw [if_pos h1, h2 w hC]; exact h
  · rw [h1]; exact h

theorem put_defers (a : Act) (d : Option Tmp) (v : Value) : (a.put d v).defers = a.defers := by cases d <;> rfl
theorem put_with (a : Act) (d : Option Tmp) (v : Value) (ds : List Deferred) : ({ a.put d v with defers := ds } : Act) = ({ a with defers := ds } : Act).put d v := by cases d <;> rfl

theorem upon_put {oi oj : Oper} {v : Value} {a : Act} {K K' : Act → World → Prop} {r : Result Next} (hc : ∀ (b : Act) u, (b.put oi.dst v).put oj.dst u = (b.put oj.dst u).put oi.dst v)
    (hK : ∀ (b : Act) u w, b.tmps = a.tmps → K ((b.put oj.dst u).put oi.dst v) w → K' (b.put oj.dst u) w) (h : UponA S oj (a.put oi.dst v) K r) : UponA S oj a K' r := by
  unfold UponA at h ⊢
  split at h
  · rw [hc] at h; exact hK a _ _ rfl h
  · rw [hc] at h; exact hK a _ _ rfl h
  · refine Calls.mono h ?_
    intro e w'' he
    cases e with
    | returned u => simp only at he ⊢; rw [hc] at he; exact hK a _ _ rfl he
    | panicked ch => simp only at he ⊢; rw [put_defers] at he; exact he
    | outgrown => exact he
  · refine Rounds.mono h ?_
    intro u w'' he
    rw [hc] at he; exact hK a _ _ rfl he
  · refine ⟨h.1, ?_⟩
    have h2 := h.2
    rw [put_with, put_defers, hc] at h2
    exact hK { a with defers := _ } _ _ rfl h2
  · rw [put_defers] at h; exact h
  · exact h

theorem pure_of_tmps {o : Oper} {v : Value} {a b : Act} (h : b.tmps = a.tmps) (hy : PureIn S ops C o v a) : PureIn S ops C o v b := by
  have he : b.eval = a.eval := by funext x; cases x <;> simp [Act.eval, h]
  unfold PureIn at hy ⊢
  rw [h, he]; exact hy

theorem opA_put {oi oj : Oper} {v : Value} (hap : oi.apart ops oj = true) (hsi : ∀ cs b, oi.op ≠ .select cs b) (hsj : ∀ cs b, oj.op ≠ .select cs b) {K : Act → World → Prop} {a : Act} {w : World}
    (hy : PureIn S ops C oi v a) (h : OpA S ops oj (a.put oi.dst v) w K) : OpA S ops oj a w (fun a' w' => PureIn S ops C oi v a' ∧ K (a'.put oi.dst v) w') := by
  obtain ⟨h1, h2, h3⟩ := Oper.apart_spec hap
  have keep : ∀ (b : Act) u, b.tmps = a.tmps → PureIn S ops C oi v (b.put oj.dst u) := by
    intro b u hb
    have hy' := pure_of_tmps hb hy
    unfold PureIn at hy' ⊢
    rw [execOp_put oi hsi b oj.dst u h3, wanted_put oi b oj.dst u h3]; exact hy'
  unfold OpA at *
  rw [wanted_put oj a oi.dst v h1] at h
  split
  · rename_i hw
    rw [if_pos hw, execOp_put oj hsj a oi.dst v h1] at h
    exact upon_put (fun b u => Act.put_comm b v u h2) (fun b u w' hb hk => ⟨keep b u hb, hk⟩) h
  · rename_i hw
    rw [if_neg hw, Act.put_comm a v undef h2] at h
    exact ⟨keep a _ rfl, h⟩

theorem OpA.mono {o : Oper} {a : Act} {w : World} {K K' : Act → World → Prop} (h : OpA S ops o a w K) (hk : ∀ a w, K a w → K' a w) : OpA S ops o a w K' := by
  unfold OpA at *
  split
  · rename_i hw
    rw [if_pos hw] at h
    unfold UponA at h ⊢
    split at h
    · exact hk _ _ h
    · exact hk _ _ h
    · refine Calls.mono h ?_
      intro e w'' he
      cases e with
      | returned u => exact hk _ _ he
      | panicked ch => exact he
      | outgrown => exact he
    · exact Rounds.mono h fun u w'' he => hk _ _ he
    · exact ⟨h.1, hk _ _ h.2⟩
    · exact h
    · exact h
  · rename_i hw
    rw [if_neg hw] at h
    exact hk _ _ h

theorem anyS_first {i d : Nat} {oi : Oper} {v : Value} (hi : ops[i]? = some oi) (hdst : oi.dst = some d) (hsel : ∀ (j : Nat) (o : Oper) cs b, ops[j]? = some o → o.op ≠ .select cs b) : ∀ (f : Nat) (listed : Array Bool) (a : Act) (w : World),
    (∀ j oj, ops[j]? = some oj → j ≠ i → listed.getD j true = false → (∀ e ∈ oj.after, Region.binds .any e = true → e.on ≠ i) → oi.apart ops oj = true) →
    i ∈ Region.ready .any ops listed → Cl ops listed → PureIn S ops C oi v a → AnyS S ops C N f (listed.setIfInBounds i true) (a.put oi.dst v) w → AnyS S ops C N (f + 1) listed a w := by
  intro f
  induction f with
  | zero =>
    intro listed a w _ hr hcl hy H
    have hC : C w := H.c.resolve_left fun h => settled_not hcl hr hi hdst h
    refine ⟨.inr hC, fun h => (by rw [h] at hr; cases hr), fun j hj => ?_⟩
    by_cases hji : j = i
    · subst hji; exact ⟨oi, hi, hy.op hC H⟩
    · have := ready_mono hj hji
      rw [H.2.1] at this; cases this
  | succ f ih =>
    intro listed a w hfree hr hcl hy H
    have hC : C w := H.c.resolve_left fun h => settled_not hcl hr hi hdst h
    refine ⟨.inr hC, fun h => (by rw [h] at hr; cases hr), fun j hj => ?_⟩
    by_cases hji : j = i
    · subst hji; exact ⟨oi, hi, hy.op hC H⟩
    · obtain ⟨oj', hoj', h1⟩ := H.2.2 j (ready_mono hj hji)
      obtain ⟨hjun, oj, hoj, hall⟩ := mem_ready.1 hj
      rw [hoj] at hoj'
      injection hoj' with hoj'
      subst hoj'
      have hun := (mem_ready.1 hr).1
      have hnot : ∀ e ∈ oj.after, Region.binds .any e = true → e.on ≠ i := fun e he hb heq => by
        have h1 := hall e he hb
        rw [heq, getD_both hun] at h1
        cases h1
      have h2 := opA_put (hfree j oj hoj hji hjun hnot) (fun cs b => hsel i oi cs b hi) (fun cs b => hsel j oj cs b hoj) hy h1
      have hfree' : ∀ k ok, ops[k]? = some ok → k ≠ i → (listed.setIfInBounds j true).getD k true = false →
          (∀ e ∈ ok.after, Region.binds .any e = true → e.on ≠ i) → oi.apart ops ok = true := fun k ok hk hki hun' hno => by
        refine hfree k ok hk hki ?_ hno
        by_cases hjk : j = k
        · subst hjk; exact hjun
        · rw [getD_set_ne true hjk] at hun'; exact hun'
      refine ⟨oj, hoj, h2.mono fun a' w' h3 => ih (listed.setIfInBounds j true) a' w' hfree' (ready_mono hr (Ne.symm hji)) (hcl.set hj) h3.1 ?_⟩
      rw [Array.setIfInBounds_comm _ _ hji]
      exact h3.2

theorem runs_of_anyS {ks : List Item} (hN : ∀ a w, N a w → Runs S.P S.K ks a w) : ∀ (f t : Nat) (listed : Array Bool) (a : Act) (w : World), AnyS S ops C N f listed a w →
    Runs S.P S.K (.inRegion ops (Region.linearise.go .any ops f t listed []) :: ks) a w
  | 0, t, listed, a, w, h => by
    simp only [Region.linearise.go, List.reverse_nil]
    exact (hN a w h.2.2).step fun _ _ _ => stepR_region_end
  | f + 1, t, listed, a, w, h => by
    obtain ⟨i, hi, hmem⟩ := pick_of (t := t) h.2.1
    rw [go_pick hi]
    obtain ⟨o, ho, hop⟩ := h.2.2 i hmem
    exact runs_op ho hop fun a' w' hn => runs_of_anyS hN f _ _ a' w' hn
end

section
variable {S : Setup} {ρ : Env} {L : List HP} {ks : List Item}
def AnyM (S : Setup) (ops : Array Oper) (Lq : List HP) (N : Env → List HP → Prop) (f : Nat) (listed : Array Bool) (ρ : Env) (L : List HP) : Prop :=
  Cl ops listed → ∀ a w, Agr a S.n S.ds ρ → Sat S.G w L → AnyS S ops (fun w => Sat S.G w Lq) (fun a' w' => ∃ ρ' L', Agr a' S.n S.ds ρ' ∧ Sat S.G w' L' ∧ N ρ' L') f listed a w

/-- A region that draws its order. 'Lq': what the quiet operations lean on; it must be known all the way. -/
theorem run_lazy {id : Nat} {l : List Oper} (Lq : List HP) (hm : S.P.follows .mixedOrders = true) (h : AnyM S l.toArray Lq (Run S ks) l.length (Array.replicate l.length false) ρ L) :
    Run S (.code (.region id l.toArray true) :: ks) ρ L := by
  intro a w ha hw b cs hk
  have hst := stepR_region_draw (P := S.P) (b := b) (a := a) (k := ks) (cs := cs) (w := w) (ops := l.toArray) (id := id)
  obtain ⟨m', hd, hs⟩ := runs_of_anyS (S := S) (ks := ks) (fun a' w' ⟨ρ', L', ha', hw', hr⟩ => hr a' w' ha' hw') l.length (w.tape w.drawn (.order b.fn id)) _ a _ (h (fun j oj _ hl => by rw [getD_replicate_false] at hl; cases hl) a _ ha (hw.drawn (w.drawn + 1))) b cs hk
  refine ⟨m', hd, .head hst ?_⟩
  simp only [Region.schedule, hm, Bool.true_or, if_true, Region.linearise]
  rw [show l.toArray.size = l.length by simp]
  exact hs
theorem run_lazyS {id : Nat} {l : List Oper} (hm : S.P.follows .mixedOrders = true) (h : AnyM S l.toArray L (Run S ks) l.length (Array.replicate l.length false) ρ L) :
    Run S (.code (.region id l.toArray true) :: ks) ρ L := run_lazy L hm h
/-- .. with what is known behind each of the orders told beforehand. -/
theorem run_lazyJ {id : Nat} {l : List Oper} {κ : Type} (Lq : List HP) (out : κ → Prop) (env' : κ → Env) (mem' : κ → List HP) (hm : S.P.follows .mixedOrders = true)
    (h : AnyM S l.toArray Lq (fun ρ' L' => ∃ j, out j ∧ Sub ρ' (env' j) ∧ ∀ w, Sat S.G w L' → Sat S.G w (mem' j)) l.length (Array.replicate l.length false) ρ L)
    (after : ∀ j, out j → Run S ks (env' j) (mem' j)) : Run S (.code (.region id l.toArray true) :: ks) ρ L := by
  intro a w ha hw b cs hk
  have hst := stepR_region_draw (P := S.P) (b := b) (a := a) (k := ks) (cs := cs) (w := w) (ops := l.toArray) (id := id)
  obtain ⟨m', hd, hs⟩ := runs_of_anyS (S := S) (ks := ks) (fun a' w' ⟨ρ', L', ha', hw', j, hj, hsub, hmem⟩ => ((after j hj).mem hmem).sub hsub a' w' ha' hw') l.length (w.tape w.drawn (.order b.fn id)) _ a _ (h (fun j oj _ hl => by rw [getD_replicate_false] at hl; cases hl) a _ ha (hw.drawn (w.drawn + 1))) b cs hk
  refine ⟨m', hd, .head hst ?_⟩
  simp only [Region.schedule, hm, Bool.true_or, if_true, Region.linearise]
  rw [show l.toArray.size = l.length by simp]
  exact hs

section
variable {ops : Array Oper} {Lq : List HP} {N : Env → List HP → Prop} {f : Nat} {listed : Array Bool} {op : Op} {ty : TypeId} {d : Nat} {pos : String} {after : Array Edge} {v : Value}
theorem m_val (i : Nat) (hi : ops[i]? = some ⟨some d, op, ty, pos, after, none⟩) (hs : Region.noSelect ops = true) (hf : Region.free .any ops listed i = true) (hr : (Region.ready .any ops listed).contains i = true)
    (hev : Ev S op ty ρ Lq v) (hd : Nat.blt d S.n = true) (h : AnyM S ops Lq N f (listed.setIfInBounds i true) ((d, v) :: ρ) L) : AnyM S ops Lq N (f + 1) listed ρ L := by
  intro hcl a w ha hw
  have hr' : i ∈ Region.ready .any ops listed := by simpa using hr
  refine anyS_first (v := v) hi rfl (Region.noSelect_spec hs) f listed a w (Region.free_spec hi hf) hr' hcl (.inl ⟨wanted_none, fun w hw => hev a w _ _ _ _ ha hw⟩) (h (hcl.set hr') _ w (ha.put (blt_lt hd) v) hw)
theorem m_guard {j t : Nat} {c : Bool} (i : Nat) (hi : ops[i]? = some ⟨some d, op, ty, pos, after, some (j, c)⟩) (hs : Region.noSelect ops = true) (hf : Region.free .any ops listed i = true) (hr : (Region.ready .any ops listed).contains i = true)
    (hj : (ops[j]?).bind (·.dst) = some t) (hc : look ρ t = some (.bool c)) (ht : Nat.blt t S.n = true) (hev : Ev S op ty ρ Lq v) (hd : Nat.blt d S.n = true) (h : AnyM S ops Lq N f (listed.setIfInBounds i true) ((d, v) :: ρ) L) : AnyM S ops Lq N (f + 1) listed ρ L := by
  intro hcl a w ha hw
  have hr' : i ∈ Region.ready .any ops listed := by simpa using hr
  refine anyS_first (v := v) hi rfl (Region.noSelect_spec hs) f listed a w (Region.free_spec hi hf) hr' hcl (.inl ⟨?_, fun w hw => hev a w _ _ _ _ ha hw⟩) (h (hcl.set hr') _ w (ha.put (blt_lt hd) v) hw)
  simp [Region.wanted, yielded_of ha hj hc ht]
theorem m_skip {j t : Nat} {c : Bool} (i : Nat) (hi : ops[i]? = some ⟨some d, op, ty, pos, after, some (j, c)⟩) (hs : Region.noSelect ops = true) (hf : Region.free .any ops listed i = true) (hr : (Region.ready .any ops listed).contains i = true)
    (hj : (ops[j]?).bind (·.dst) = some t) (hc : look ρ t = some (.bool (!c))) (ht : Nat.blt t S.n = true) (hd : Nat.blt d S.n = true) (h : AnyM S ops Lq N f (listed.setIfInBounds i true) ((d, undef) :: ρ) L) : AnyM S ops Lq N (f + 1) listed ρ L := by
  intro hcl a w ha hw
  have hr' : i ∈ Region.ready .any ops listed := by simpa using hr
  refine anyS_first (v := undef) hi rfl (Region.noSelect_spec hs) f listed a w (Region.free_spec hi hf) hr' hcl (.inr ⟨?_, rfl⟩) (h (hcl.set hr') _ w (ha.put (blt_lt hd) undef) hw)
  simp [Region.wanted, yielded_of ha hj hc ht]
theorem m_loud1 (i : Nat) {o : Oper} (hr : Region.ready .any ops listed = [i]) (ho : ops[i]? = some o) (hC : settled ops listed = true ∨ ∀ w, Sat S.G w L → Sat S.G w Lq) (h : OpK S ops o ρ L (AnyM S ops Lq N f (listed.setIfInBounds i true))) : AnyM S ops Lq N (f + 1) listed ρ L := by
  intro hcl a w ha hw
  refine ⟨hC.imp id (fun h => h w hw), by rw [hr]; simp, fun k hk => ?_⟩
  have hk' := hk
  rw [hr] at hk
  have hke := List.mem_singleton.1 hk
  subst hke
  exact ⟨o, ho, (h a w ha hw).mono fun a' w' ⟨ρ', L', ha', hw', hn⟩ => hn (hcl.set hk') a' w' ha' hw'⟩
theorem m_loud2 (i j : Nat) {o u : Oper} (hr : Region.ready .any ops listed = [i, j]) (ho : ops[i]? = some o) (hu : ops[j]? = some u) (hC : settled ops listed = true ∨ ∀ w, Sat S.G w L → Sat S.G w Lq)
    (h : OpK S ops o ρ L (AnyM S ops Lq N f (listed.setIfInBounds i true))) (h' : OpK S ops u ρ L (AnyM S ops Lq N f (listed.setIfInBounds j true))) : AnyM S ops Lq N (f + 1) listed ρ L := by
  intro hcl a w ha hw
  refine ⟨hC.imp id (fun h => h w hw), by rw [hr]; simp, fun k hk => ?_⟩
  have hk' := hk
  rw [hr] at hk
  rcases List.mem_cons.1 hk with rfl | hk
  · exact ⟨o, ho, (h a w ha hw).mono fun a' w' ⟨ρ', L', ha', hw', hn⟩ => hn (hcl.set hk') a' w' ha' hw'⟩
  · have hke := List.mem_singleton.1 hk
    subst hke
    exact ⟨u, hu, (h' a w ha hw).mono fun a' w' ⟨ρ', L', ha', hw', hn⟩ => hn (hcl.set hk') a' w' ha' hw'⟩
theorem m_loud3 (i j k : Nat) {o u x : Oper} (hr : Region.ready .any ops listed = [i, j, k]) (ho : ops[i]? = some o) (hu : ops[j]? = some u) (hx : ops[k]? = some x) (hC : settled ops listed = true ∨ ∀ w, Sat S.G w L → Sat S.G w Lq)
    (h : OpK S ops o ρ L (AnyM S ops Lq N f (listed.setIfInBounds i true))) (h' : OpK S ops u ρ L (AnyM S ops Lq N f (listed.setIfInBounds j true))) (h'' : OpK S ops x ρ L (AnyM S ops Lq N f (listed.setIfInBounds k true))) : AnyM S ops Lq N (f + 1) listed ρ L := by
  intro hcl a w ha hw
  refine ⟨hC.imp id (fun h => h w hw), by rw [hr]; simp, fun q hq => ?_⟩
  have hk' := hq
  rw [hr] at hq
  simp only [List.mem_cons, List.not_mem_nil, or_false] at hq
  rcases hq with rfl | rfl | rfl
  · exact ⟨o, ho, (h a w ha hw).mono fun a' w' ⟨ρ', L', ha', hw', hn⟩ => hn (hcl.set hk') a' w' ha' hw'⟩
  · exact ⟨u, hu, (h' a w ha hw).mono fun a' w' ⟨ρ', L', ha', hw', hn⟩ => hn (hcl.set hk') a' w' ha' hw'⟩
  · exact ⟨x, hx, (h'' a w ha hw).mono fun a' w' ⟨ρ', L', ha', hw', hn⟩ => hn (hcl.set hk') a' w' ha' hw'⟩
theorem m_end (hr : Region.ready .any ops listed = []) (hC : settled ops listed = true ∨ ∀ w, Sat S.G w L → Sat S.G w Lq) (h : N ρ L) : AnyM S ops Lq N 0 listed ρ L := fun _ _ w ha hw => ⟨hC.imp id (fun h => h w hw), hr, _, _, ha, hw, h⟩
end
end
end Go.PS
