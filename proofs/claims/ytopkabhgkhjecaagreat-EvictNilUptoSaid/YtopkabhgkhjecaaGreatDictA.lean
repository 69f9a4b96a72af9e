/-
  A table of pointers as one assertion, and what its calls do to it.
  Conditions: each contract's own.
-/
import Derived.Test.YtopkabhgkhjecaaGreatDictE
import Derived.Test.YtopkabhgkhjecaaGreatDictN
namespace Go.PS
open Go Go.Proofs

theorem Spec.exm {P : Program} {G : World} {f : FuncId} {args : List Value} {L : List HP} {Q : Value → List HP → Prop} {κ : Type} {p : κ → Prop} {M : κ → List HP} (hs : ∀ w, Sat G w L → ∃ x, p x ∧ Sat G w (M x)) (h : ∀ x, p x → Spec P G f args (M x) Q) : Spec P G f args L Q :=
  ⟨fun w hw => let ⟨x, hp, hx⟩ := hs w hw; (h x hp).run w hx⟩
theorem Spec.post {P : Program} {G : World} {f : FuncId} {args : List Value} {L : List HP} {Q Q' : Value → List HP → Prop} (h : Spec P G f args L Q) (hq : ∀ v L', Q v L' → ∃ L'', Q' v L'' ∧ ∀ w, Sat G w L' → Sat G w L'') : Spec P G f args L Q' :=
  ⟨fun w hw => (h.run w hw).mono fun _ _ ⟨v, L', q, r, s⟩ => let ⟨L'', h1, h2⟩ := hq v L' q; ⟨v, L'', h1, r, h2 _ s⟩⟩

abbrev ptrV (p : Nat) : Value := .pointer (some ⟨p, 0, none⟩)
def cvP (x : Nat × Nat) : Nat × Value := (x.1, ptrV x.2)
/-- A table of pointers. -/
def DictA (b : Nat) (d : D Nat) : HP := fun h => ∃ (d' : D (Nat × Nat)) (to ty : Nat), d'.map Prod.snd = d ∧ Star (dictL τK b (d'.map cvP) to ty) h

theorem sat_dict {G w : World} {L : List HP} {b : Nat} {d : D Nat} (H : Sat G w (DictA b d :: L)) : ∃ x : D (Nat × Nat) × Nat × Nat, x.1.map Prod.snd = d ∧ Sat G w (dictL τK b (x.1.map cvP) x.2.1 x.2.2 ++ L) := by
  unfold DictA at H
  obtain ⟨d', H⟩ := H.ex
  obtain ⟨to, H⟩ := H.ex
  obtain ⟨ty, H⟩ := H.ex
  obtain ⟨h1, H⟩ := H.pure
  exact ⟨(d', to, ty), h1, H.ungroup⟩
theorem sat_mkDict {G w : World} {L : List HP} {b to ty : Nat} {d' : D (Nat × Nat)} (H : Sat G w (dictL τK b (d'.map cvP) to ty ++ L)) : Sat G w (DictA b (d'.map Prod.snd) :: L) :=
  H.group.weak fun _ h => ⟨d', to, ty, rfl, h⟩

section
variable {G : World} {F : List HP} {b : Nat} {d : D Nat}

theorem newA_spec (seed : Int) : Spec Tryz.prog G 44 [.int .u64 seed] F fun v L' => ∃ b, v = ptrV b ∧ L' = DictA b (D.mk0 seed) :: F :=
  (new_spec seed).post fun v L' ⟨b, h1, h2⟩ => ⟨_, ⟨b, h1, rfl⟩, fun w hw => by
    subst h2
    exact sat_mkDict (d' := D.mk0 seed) hw⟩
theorem okOf {d' : D (Nat × Nat)} (h : D.WF d) (hd : d'.map Prod.snd = d) : D.WF (d'.map cvP) := by
  subst hd
  exact (D.map_wf cvP).2 ((D.map_wf Prod.snd).1 h)
theorem lenA_spec : Spec Tryz.prog G 64 [ptrV b] (DictA b d :: F) fun v L' => v = .int .i64 d.n ∧ L' = DictA b d :: F := by
  refine Spec.exm (fun _ hw => sat_dict hw) ?_
  rintro ⟨d', to, ty⟩ rfl
  haveI := dict_reads (G := G) (F := F) (b := b) (to := to) (ty := ty) (d := d'.map cvP)
  exact (len_spec (d := d'.map cvP) to ty).post fun v L' ⟨h1, h2⟩ => ⟨_, ⟨h1, rfl⟩, fun w hw => by
    subst h2
    exact sat_mkDict hw⟩
def gotV (p : Option Nat) : Value := match p with
  | some p => .tuple #[ptrV p, .bool true]
  | none => .tuple #[.pointer none, .bool false]
theorem getA_spec (key : ByteArray) (h : D.WF d) (hk : key.size ≤ 9223372036854775806) :
    Spec Tryz.prog G 116 [ptrV b, .string key] (DictA b d :: F) fun v L' => v = gotV (d.find key) ∧ L' = DictA b d.step :: F := by
  refine Spec.exm (fun _ hw => sat_dict hw) ?_
  rintro ⟨d', to, ty⟩ hd
  have hwf := okOf h hd
  refine (get_spec key hwf.ok hk).post ?_
  rintro v L' ⟨to', ty', rfl, rfl⟩
  simp only at hd
  subst hd
  refine ⟨_, ⟨?_, rfl⟩, fun w hw => ?_⟩
  · rw [← h.find_step, D.map_step, D.map_step, D.map_find, D.map_find]
    cases d'.step.find key with
    | none => rfl
    | some x => rfl
  · rw [D.map_step] at hw ⊢
    exact sat_mkDict hw
theorem setA_spec (key : ByteArray) (p : Nat) (h : D.WF d) (hk : key.size ≤ 9223372036854775806) (hn : d.n ≤ 1099511627776) :
    Spec Tryz.prog G 107 [ptrV b, .string key, ptrV p] (DictA b d :: F) fun v L' => v = .bool (d.find key).isNone ∧ L' = DictA b (d.set key (fun _ => p) p) :: F := by
  refine Spec.exm (fun _ hw => sat_dict hw) ?_
  rintro ⟨d', to, ty⟩ hd
  have hwf := okOf h hd
  simp only at hd
  subst hd
  refine (set_spec key (some ⟨p, 0, none⟩) hwf.ok hk hn).post ?_
  rintro v L' ⟨to', ty', e, rfl, rfl⟩
  have h1 : (d'.map cvP).set key (fun q => (q.1, ptrV p)) (e, ptrV p) = (d'.set key (fun q => (q.1, p)) (e, p)).map cvP := D.map_set cvP (fun q => (q.1, p)) (fun q => (q.1, ptrV p)) (fun _ => rfl) d' key (e, p)
  have h2 : (d'.map Prod.snd).set key (fun _ => p) p = (d'.set key (fun q => (q.1, p)) (e, p)).map Prod.snd := D.map_set Prod.snd (fun q => (q.1, p)) (fun _ => p) (fun _ => rfl) d' key (e, p)
  refine ⟨_, ⟨?_, rfl⟩, fun w hw => ?_⟩
  · rw [← h.find_step, D.map_step, D.map_step, D.map_find, D.map_find]
    cases d'.step.find key <;> rfl
  · rw [h1] at hw
    rw [h2]
    exact sat_mkDict hw
theorem delA_spec (key : ByteArray) (h : D.WF d) (hk : key.size ≤ 9223372036854775806) (hn : d.n ≤ 1099511627776) :
    Spec Tryz.prog G 105 [ptrV b, .string key] (DictA b d :: F) fun v L' => v = .bool (d.find key).isSome ∧ L' = DictA b (d.delete key) :: F := by
  refine Spec.exm (fun _ hw => sat_dict hw) ?_
  rintro ⟨d', to, ty⟩ hd
  have hwf := okOf h hd
  simp only at hd
  subst hd
  refine (delete_spec key hwf.ok hk hn (fun hs => ?_)).post ?_
  · rw [hwf.find_step, hwf.find_isSome] at hs
    have : (d'.map cvP).n = (d'.map cvP).items.length := hwf.count
    rw [this]
    have hne : (d'.map cvP).keys ≠ [] := fun e => by rw [e] at hs; cases hs
    unfold D.keys at hne
    exact List.length_pos_iff.2 fun e => hne (by rw [e]; rfl)
  rintro v L' ⟨to', ty', rfl, rfl⟩
  refine ⟨_, ⟨?_, rfl⟩, fun w hw => ?_⟩
  · rw [← h.find_step, D.map_step, D.map_step, D.map_find, D.map_find]
    cases d'.step.find key <;> rfl
  · rw [D.map_delete] at hw ⊢
    exact sat_mkDict hw
def pickedV (k : Option ByteArray) : Value := match k with
  | some k => .tuple #[.string k, .bool true]
  | none => .tuple #[.string ByteArray.empty, .bool false]
theorem WF.long {α : Type} {d : D α} (h : D.WF d) (hn : d.n ≤ 1099511627776) : ∀ c ∈ d.rows, c.length ≤ 1099511627776 := by
  intro c hc
  have h1 : c.length ≤ d.rows.flatten.length := by
    obtain ⟨s, t, e⟩ := List.append_of_mem hc
    rw [e]; simp; omega
  rw [D.rows_flatten, h.all_eq, ← h.count] at h1
  omega
theorem sampleA_spec (r : Nat) (hr : r ≤ 18446744073709551615) (h : D.WF d) (hn : d.n ≤ 1099511627776) :
    Spec Tryz.prog G 99 [ptrV b, .int .u64 r] (DictA b d :: F) fun v L' => v = pickedV (d.sample r) ∧ L' = DictA b d :: F := by
  refine Spec.exm (fun _ hw => sat_dict hw) ?_
  rintro ⟨d', to, ty⟩ hd
  have hwf := okOf h hd
  simp only at hd
  subst hd
  refine (sample_spec r hr hwf.ok hn (fun hne => hwf.some_row hne) (WF.long hwf hn)).post ?_
  rintro v L' ⟨rfl, rfl⟩
  refine ⟨_, ⟨?_, rfl⟩, fun w hw => sat_mkDict hw⟩
  rw [D.map_sample, D.map_sample]
  cases d'.sample r <;> rfl

theorem eachA_spec {L : List HP} {bx : Nat} {y : Value} (J : Nat → List HP → Prop) (h : D.WF d) (hn : d.n ≤ 1099511627776) (h0 : J 0 L) [hbx : Reads G L bx #[ptrV b]]
    (hy : ∀ i k p L X, d.items[i]? = some (k, p) → J i L → SpecV Tryz.prog G y [.string k, ptrV p] (X ++ L) fun u L' => u = .bool true ∧ ∃ L1, J (i + 1) L1 ∧ L' = X ++ L1) :
    Spec Tryz.prog G 110 [y, .pointer (some ⟨bx, 0, none⟩)] (DictA b d :: L) fun _ L' => ∃ X L1, J d.items.length L1 ∧ L' = X ++ (DictA b d :: L1) := by
  refine Spec.exm (fun _ hw => sat_dict hw) ?_
  rintro ⟨d', to, ty⟩ hd
  have hwf := okOf h hd
  simp only at hd
  subst hd
  have hit : (d'.map cvP).rows.flatten = D.mapC cvP d'.items := by rw [D.rows_flatten, hwf.all_eq, D.map_items]
  have hit2 : (d'.map Prod.snd).items = D.mapC Prod.snd d'.items := D.map_items _ _
  have hlen : (d'.map cvP).rows.flatten.length = (d'.map Prod.snd).items.length := by rw [hit, hit2]; simp [D.mapC]
  haveI : Reads G (dictL τK b (d'.map cvP) to ty ++ L) bx #[.pointer (some ⟨b, 0, none⟩)] := reads_append _ hbx
  have hr := dict_reads (G := G) (F := L) (b := b) (to := to) (ty := ty) (d := d'.map cvP)
  have hR := dict_tabR (G := G) (F := L) (b := b) (to := to) (ty := ty) (d := d'.map cvP)
  refine (each1_spec (L := dictL τK b (d'.map cvP) to ty ++ L) (b := b) (to := to) (ty := ty) (bx := bx) (d := d'.map cvP) (y := y) (fun i L' => ∃ L0, J i L0 ∧ L' = dictL τK b (d'.map cvP) to ty ++ L0) hwf.ok ⟨L, h0, rfl⟩ ⟨hr, hR.1, hR.2⟩ ?_ ?_ ?_).post ?_
  · intro c hc x hx
    have : x ∈ (d'.map cvP).rows.flatten := List.mem_flatten.2 ⟨c, hc, hx⟩
    rw [hit] at this
    obtain ⟨z, _, rfl⟩ := List.mem_map.1 this
    exact ⟨_, rfl⟩
  · rw [hlen, ← h.count]; exact hn
  · rintro i k e v L2 X hx ⟨L0, hJ, rfl⟩
    rw [hit] at hx
    unfold D.mapC at hx
    rw [List.getElem?_map] at hx
    cases hz : d'.items[i]? with
    | none => rw [hz] at hx; cases hx
    | some z =>
      rw [hz] at hx
      obtain ⟨k', e', p'⟩ := z
      simp only [Option.map_some, Option.some.injEq, cvP, Prod.mk.injEq] at hx
      obtain ⟨rfl, rfl, rfl⟩ := hx
      have hi : (d'.map Prod.snd).items[i]? = some (k', p') := by rw [hit2]; unfold D.mapC; rw [List.getElem?_map, hz]; rfl
      have := hy i k' p' L0 (X ++ dictL τK b (d'.map cvP) to ty) hi hJ
      rw [List.append_assoc] at this
      refine this.mono ?_
      rintro u L' ⟨h1, L1, h2, rfl⟩
      exact ⟨h1, _, ⟨L1, h2, rfl⟩, by rw [List.append_assoc]⟩
  · rintro v L' ⟨X, L1, ⟨L0, hJ, rfl⟩, rfl⟩
    rw [hlen] at hJ
    refine ⟨_, ⟨X, L0, hJ, rfl⟩, fun w hw => ?_⟩
    have h1 : Sat G w (dictL τK b (d'.map cvP) to ty ++ (X ++ L0)) := hw.perm (List.perm_append_comm_assoc _ _ _)
    exact (sat_mkDict h1).perm List.perm_middle.symm

/-- A table, wherever it lies. -/
class FindD (b : Nat) (L : List HP) (d : outParam (D Nat)) (L' : outParam (List HP)) : Prop where
  perm : L.Perm (DictA b d :: L')
instance findDTail {b : Nat} {d : D Nat} {A : HP} {L L' : List HP} [h : FindD b L d L'] : FindD b (A :: L) d (A :: L') := ⟨(h.perm.cons A).trans (.swap _ A L')⟩
instance findDHead {b : Nat} {d : D Nat} {L : List HP} : FindD b (DictA b d :: L) d L := ⟨.refl _⟩
variable {L L' : List HP} [hf : FindD b L d L']
theorem lenF_spec : Spec Tryz.prog G 64 [ptrV b] L fun v L'' => v = .int .i64 d.n ∧ L'' = DictA b d :: L' := lenA_spec.perm hf.perm
theorem getF_spec (key : ByteArray) (h : D.WF d) (hk : key.size ≤ 9223372036854775806) : Spec Tryz.prog G 116 [ptrV b, .string key] L fun v L'' => v = gotV (d.find key) ∧ L'' = DictA b d.step :: L' := (getA_spec key h hk).perm hf.perm
theorem setF_spec (key : ByteArray) (p : Nat) (h : D.WF d) (hk : key.size ≤ 9223372036854775806) (hn : d.n ≤ 1099511627776) :
    Spec Tryz.prog G 107 [ptrV b, .string key, ptrV p] L fun v L'' => v = .bool (d.find key).isNone ∧ L'' = DictA b (d.set key (fun _ => p) p) :: L' := (setA_spec key p h hk hn).perm hf.perm
theorem delF_spec (key : ByteArray) (h : D.WF d) (hk : key.size ≤ 9223372036854775806) (hn : d.n ≤ 1099511627776) :
    Spec Tryz.prog G 105 [ptrV b, .string key] L fun v L'' => v = .bool (d.find key).isSome ∧ L'' = DictA b (d.delete key) :: L' := (delA_spec key h hk hn).perm hf.perm
theorem sampleF_spec (r : Nat) (hr : r ≤ 18446744073709551615) (h : D.WF d) (hn : d.n ≤ 1099511627776) :
    Spec Tryz.prog G 99 [ptrV b, .int .u64 r] L fun v L'' => v = pickedV (d.sample r) ∧ L'' = DictA b d :: L' := (sampleA_spec r hr h hn).perm hf.perm
end
end Go.PS
