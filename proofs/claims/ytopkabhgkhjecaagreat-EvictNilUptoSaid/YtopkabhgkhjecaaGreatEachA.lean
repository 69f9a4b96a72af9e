/-
  Going through a table, as a rule.
  Conditions: a right table.
-/
import Derived.Test.YtopkabhgkhjecaaGreatCmpW
namespace Go.PS
open Go Go.Proofs

theorem SpecV.post {P : Program} {G : World} {f : Value} {args : List Value} {L : List HP} {Q Q' : Value → List HP → Prop} (h : SpecV P G f args L Q) (hq : ∀ v L', Q v L' → ∃ L'', Q' v L'' ∧ ∀ w, Sat G w L' → Sat G w L'') : SpecV P G f args L Q' := by
  refine ⟨fun w hw => ?_⟩
  have h1 := h.run w hw
  unfold CallV at h1 ⊢
  generalize (do let d ← Deferred.ofValue f args.toArray; invoke d.target d.args : Sem Next).run P w = r at h1
  split at h1
  · obtain ⟨L', q, hw'⟩ := h1
    obtain ⟨L'', q', hm⟩ := hq _ _ q
    exact ⟨L'', q', hm _ hw'⟩
  · refine h1.mono fun e w'' ⟨v, he, L', q, hw'⟩ => ?_
    obtain ⟨L'', q', hm⟩ := hq _ _ q
    exact ⟨v, he, L'', q', hm _ hw'⟩
  · refine Rounds.mono h1 fun v w'' ⟨L', q, hw'⟩ => ?_
    obtain ⟨L'', q', hm⟩ := hq _ _ q
    exact ⟨L'', q', hm _ hw'⟩
  · exact h1.elim

/-- 'for key, e := range d.Each()'. 'mem i x Y': what is known ahead of round i, 'Y' beside it. -/
theorem run_eachA {G : World} {kf : FuncId} {n : Nat} {ds : List Deferred} {R : Ending → World → Prop} {ks : List Item} {ρ : Env} {L : List HP} {g : Operand} {ps : List Tmp} {assign body : Code} {bl bx : Nat} {d : D Nat} {κ : Type}
    (mem : Nat → κ → List HP → List HP) (x0 : κ) (hg : ev ρ g = some (.func (.func 110) #[] #[.pointer (some ⟨bx, 0, none⟩)])) (hwf : d.WF) (hn : d.n ≤ 1099511627776) (hlen : Nat.beq 2 ps.length = true) (hlt : (ps.all fun t => Nat.blt t n) = true)
    (hmem : ∀ i x Y, (mem i x [] ++ Y).Perm (mem i x Y)) (h0 : ∀ w, Sat G w L → Sat G w (DictA bl d :: Blk bx (.cells #[ptrV bl] 88 (0, 0)) :: mem 0 x0 []))
    (round : ∀ l r i k p x Y, LoopOf r kf ps assign body n ρ → d.items[i]? = some (k, p) →
      Run ⟨Tryz.prog, G, .round kf l (fun v w => ∃ L', (v = .bool true ∧ ∃ x', L' = Blk l (.loop r) :: mem (i + 1) x' Y) ∧ Sat G w L'), n, []⟩ [.code assign, .beginRound, .code body] (parEnv (ps.zip [.string k, ptrV p]) ρ) (Blk l (.loop r) :: mem i x Y))
    (after : ∀ x Y dd, Run ⟨Tryz.prog, G, .fn kf R, n, mark dd :: ds⟩ ks ρ (Blk dd (.deferred (some [])) :: DictA bl d :: mem d.items.length x Y)) :
    Run ⟨Tryz.prog, G, .fn kf R, n, ds⟩ (.code (.rangeFunc g ps.toArray assign body) :: ks) ρ L := by
  refine Run.mem ?_ h0
  refine run_rangeFunc (us := []) (cap := [.pointer (some ⟨bx, 0, none⟩)]) hg (by kernel_rfl) ?_
  intro l r dd hr
  let B : HP := Blk bx (.cells #[ptrV bl] 88 (0, 0))
  let J (i : Nat) (L' : List HP) : Prop := ∃ x, L' = Blk l (.loop r) :: Blk dd (.deferred (some [])) :: B :: mem i x []
  haveI : Reads G (Blk l (.loop r) :: Blk dd (.deferred (some [])) :: B :: mem 0 x0 []) bx #[ptrV bl] := reads_mem (T := 88) (fz := (0, 0)) (by simp [B])
  have key := eachA_spec (G := G) (b := bl) (d := d) (L := Blk l (.loop r) :: Blk dd (.deferred (some [])) :: B :: mem 0 x0 []) (bx := bx) (y := .func (.yield l) #[] #[]) J hwf hn ⟨x0, rfl⟩ ?_
  · refine Spec.perm (L' := DictA bl d :: Blk l (.loop r) :: Blk dd (.deferred (some [])) :: B :: mem 0 x0 []) (List.perm_middle (l₁ := [Blk l (.loop r), Blk dd (.deferred (some []))])) ?_
    refine key.post ?_
    rintro v L' ⟨X, L1, ⟨x, rfl⟩, rfl⟩
    refine ⟨Blk l (.loop r) :: Blk dd (.deferred (some [])) :: DictA bl d :: mem d.items.length x (B :: X), ⟨r, _, rfl, by rw [hr.ready]; simp, ?_⟩, fun w hw => ?_⟩
    · rw [hr.pend]
      exact after x (B :: X) dd
    · have h1 := hw.perm List.perm_append_comm
      have h2 : Sat G w (DictA bl d :: Blk l (.loop r) :: Blk dd (.deferred (some [])) :: (B :: mem d.items.length x [] ++ X)) := h1
      have h3 : (B :: mem d.items.length x [] ++ X).Perm (mem d.items.length x (B :: X)) := (List.perm_middle (l₁ := mem d.items.length x [])).symm.trans (hmem _ _ _)
      exact (h2.perm (((h3.cons _).cons _).cons _)).perm (List.perm_middle (l₁ := [Blk l (.loop r), Blk dd (.deferred (some []))])).symm
  · rintro i k p L' X hi ⟨x, rfl⟩
    let Y : List HP := Blk dd (.deferred (some [])) :: B :: X
    have hperm : ∀ i x, (X ++ (Blk l (.loop r) :: Blk dd (.deferred (some [])) :: B :: mem i x [])).Perm (Blk l (.loop r) :: mem i x Y) := fun i x => by
      refine List.perm_append_comm.trans ?_
      refine .cons _ ?_
      refine List.Perm.trans ?_ (hmem i x Y)
      have e1 : (Blk dd (.deferred (some [])) :: B :: mem i x [] ++ X).Perm (mem i x [] ++ X ++ [Blk dd (.deferred (some [])), B]) :=
        List.perm_append_comm (l₁ := [Blk dd (.deferred (some [])), B]) (l₂ := mem i x [] ++ X)
      refine e1.trans ?_
      rw [List.append_assoc]
      exact (List.perm_append_comm (l₁ := X) (l₂ := [Blk dd (.deferred (some [])), B])).append_left _
    refine SpecV.perm (hperm i x) ?_
    refine (specV_round hr (by simpa using hlen) hlt (round l r i k p x Y hr hi)).post ?_
    rintro v L' ⟨h1, x', rfl⟩
    exact ⟨_, ⟨h1, _, ⟨x', rfl⟩, rfl⟩, fun w hw => hw.perm (hperm (i + 1) x').symm⟩
end Go.PS
