/- A part of the walk: what this seat's statements share. -/
import Derived.Test.YtdiljpnfochndaaZHI
set_option linter.unusedSectionVars false
set_option linter.unusedVariables false
set_option linter.unusedSimpArgs false
namespace Go.Proofs.Ytdiljpnfochndaa
open Go Go.RowKit Go.Proofs.Ytdiljpnfochndaa.VW
open Go.Proofs.Ytdiljpnfochndaa.HP (Nd kid wor leafB rd evB TF far Ef ed pickF joinF NE NeedP GoodE gameOf gameOf_TF NV ValP)
attribute [local irreducible] W Ops
/-- Position k of a list of leaves is in order. -/
def okAt (l : List Nd) (xs : List Int) (k : Nat) : Prop := 0 ≤ xs.getD k 0 ∧ xs.getD k 0 ≤ l.length - 1 ∧ leafB l (xs.getD k 0) = true ∧ (0 < k → xs.getD (k - 1) 0 < xs.getD k 0)
def Listed (l : List Nd) (xs : List Int) : Prop := ∀ k, k < xs.length → okAt l xs k
instance (l : List Nd) (xs : List Int) (k : Nat) : Decidable (okAt l xs k) := by unfold okAt; infer_instance
instance (l : List Nd) (xs : List Int) : Decidable (Listed l xs) := by unfold Listed; infer_instance
theorem areLeaves_c {w : World} {g : Nat} {l : List Nd} {dep : List Int} {v : Value} {xs : List Int} (hG : Game w g l dep) (hn : l.length ≤ 60) (hv : SlI w v xs) :
    Calls Try.prog 67 #[.pointer (some ⟨g, 0, none⟩), v] w (Ret fun r w' => Below w.heap.size w w' ∧ ((Listed l xs ∧ ∃ b, r = .tuple #[.map (some b), .bool true] ∧ w.heap.size ≤ b ∧ MapB w' b (fun k => xs.contains k)) ∨ (¬ Listed l xs ∧ r = .tuple #[.map none, .bool false]))) := by
  obtain ⟨tv, dv, hB, hTr, hD⟩ := hG.out
  obtain ⟨At, ct, rfl⟩ := hTr.sl
  have hvl := Sl.len hv
  obtain ⟨A, c, rfl⟩ := Sl.sl hv
  refine calls_W (vs := [_, _]) Try.func67 rfl (by kernel_rfl) rfl ?_
  (repeat (first | with_reducible refine W.seq ?_ | with_reducible refine Ops.nil ?_ | with_reducible refine W.region ?_ | refine Ops.pu rfl rfl rfl ?_ | refine Ops.ar rfl rfl rfl (by omega) ?_ | refine Ops.yes rfl rfl rfl ?_ | refine Ops.no rfl rfl rfl rfl rfl ?_ | refine Ops.nu rfl rfl rfl rfl ?_ | with_reducible refine W.skip ?_ | with_reducible refine W.endb ?_ | with_reducible refine W.block ?_ | refine W.exit rfl ?_ | refine Ops.len rfl rfl rfl rfl rfl ?_ | refine Ops.flp rfl rfl rfl rfl rfl ?_ | refine Ops.max rfl rfl rfl rfl rfl ?_ | refine Ops.min rfl rfl rfl rfl rfl ?_ | refine Ops.eqB rfl rfl rfl rfl rfl rfl ?_ | refine Ops.neB rfl rfl rfl rfl rfl rfl ?_ | (apply Ops.ldB rfl rfl rfl rfl rfl; assumption; rfl)))
  refine Ops.mkM rfl rfl rfl (fun w1 mb hm k1 hme => ?_)
  have hb1 : Below w.heap.size w w1 := k1.below (Nat.le_refl _) (fun _ _ e => e)
  (repeat (first | with_reducible refine W.seq ?_ | with_reducible refine Ops.nil ?_ | with_reducible refine W.region ?_ | refine Ops.pu rfl rfl rfl ?_ | refine Ops.ar rfl rfl rfl (by omega) ?_ | refine Ops.yes rfl rfl rfl ?_ | refine Ops.no rfl rfl rfl rfl rfl ?_ | refine Ops.nu rfl rfl rfl rfl ?_ | with_reducible refine W.skip ?_ | with_reducible refine W.endb ?_ | with_reducible refine W.block ?_ | refine W.exit rfl ?_ | refine Ops.len rfl rfl rfl rfl rfl ?_ | refine Ops.flp rfl rfl rfl rfl rfl ?_ | refine Ops.max rfl rfl rfl rfl rfl ?_ | refine Ops.min rfl rfl rfl rfl rfl ?_ | refine Ops.eqB rfl rfl rfl rfl rfl rfl ?_ | refine Ops.neB rfl rfl rfl rfl rfl rfl ?_ | (apply Ops.ldB rfl rfl rfl rfl rfl; assumption; rfl)))
  refine W.loop (fun m ρ w3 => ∃ j : Nat, m = xs.length - j ∧ j ≤ xs.length ∧ ρ = [(0, .pointer (some ⟨g, 0, none⟩)), (1, .slice A xs.length c), (6, .map (some mb)), (10, .slice A xs.length c), (11, .int .i64 xs.length), (12, .int .i64 j)] ∧
      Below w.heap.size w w3 ∧ MapB w3 mb (fun k => (xs.take j).contains k) ∧ ∀ k, k < j → okAt l xs k)
    ⟨_, _, ⟨0, rfl, Nat.zero_le _, rfl, hb1, hm, fun k hk => by omega⟩, (by repeat (first | exact trivial | refine And.intro rfl ?_))⟩ ?_
  rintro m ρ w3 ⟨j, rfl, hj, rfl, hb3, hm3, hok⟩
  have hG3 := hG.below hb3
  have hB3 := hB.kp (Kp.of_below (S := fun _ => False) hb3) (fun e => e)
  have hv3 := Sl.below hv hb3
  (repeat (first | with_reducible refine W.seq ?_ | with_reducible refine Ops.nil ?_ | with_reducible refine W.region ?_ | refine Ops.pu rfl rfl rfl ?_ | refine Ops.ar rfl rfl rfl (by omega) ?_ | refine Ops.yes rfl rfl rfl ?_ | refine Ops.no rfl rfl rfl rfl rfl ?_ | refine Ops.nu rfl rfl rfl rfl ?_ | with_reducible refine W.skip ?_ | with_reducible refine W.endb ?_ | with_reducible refine W.block ?_ | refine W.exit rfl ?_ | refine Ops.len rfl rfl rfl rfl rfl ?_ | refine Ops.flp rfl rfl rfl rfl rfl ?_ | refine Ops.max rfl rfl rfl rfl rfl ?_ | refine Ops.min rfl rfl rfl rfl rfl ?_ | refine Ops.eqB rfl rfl rfl rfl rfl rfl ?_ | refine Ops.neB rfl rfl rfl rfl rfl rfl ?_ | (apply Ops.ldB rfl rfl rfl rfl rfl; assumption; rfl)))
  refine W.cond rfl (fun hc => ?_) (fun hc => ?_)
  · have hlt : j < xs.length := by simp at hc; omega
    have htk : ∀ k, (xs.take (j + 1)).contains k = ((xs.take j).contains k || k == xs.getD j 0) := by
      intro k
      rw [Go.Proofs.Ytdiljpnfochndaa.HP.take_snoc _ _ hlt]
      simp [Bool.beq_eq_decide_eq]
    (repeat (first | with_reducible refine W.seq ?_ | with_reducible refine Ops.nil ?_ | with_reducible refine W.region ?_ | refine Ops.pu rfl rfl rfl ?_ | refine Ops.ar rfl rfl rfl (by omega) ?_ | refine Ops.yes rfl rfl rfl ?_ | refine Ops.no rfl rfl rfl rfl rfl ?_ | refine Ops.nu rfl rfl rfl rfl ?_ | with_reducible refine W.skip ?_ | with_reducible refine W.endb ?_ | with_reducible refine W.block ?_ | refine W.exit rfl ?_ | refine Ops.len rfl rfl rfl rfl rfl ?_ | refine Ops.flp rfl rfl rfl rfl rfl ?_ | refine Ops.max rfl rfl rfl rfl rfl ?_ | refine Ops.min rfl rfl rfl rfl rfl ?_ | refine Ops.eqB rfl rfl rfl rfl rfl rfl ?_ | refine Ops.neB rfl rfl rfl rfl rfl rfl ?_ | (apply Ops.ldB rfl rfl rfl rfl rfl; assumption; rfl)))
    refine Ops.rdS (enc := Value.int .i64) (z := (0 : Int)) rfl rfl rfl rfl rfl rfl rfl rfl rfl rfl rfl hv3 (by omega) (by omega) (fun p => ?_)
    simp only [Int.toNat_natCast]
    have hoj : okAt l xs j ↔ 0 ≤ xs.getD j 0 ∧ xs.getD j 0 ≤ l.length - 1 ∧ leafB l (xs.getD j 0) = true ∧ (0 < j → xs.getD (j - 1) 0 < xs.getD j 0) := Iff.rfl
    generalize hcj : xs.getD j 0 = cj at *
    (repeat (first | with_reducible refine W.seq ?_ | with_reducible refine Ops.nil ?_ | with_reducible refine W.region ?_ | refine Ops.pu rfl rfl rfl ?_ | refine Ops.ar rfl rfl rfl (by omega) ?_ | refine Ops.yes rfl rfl rfl ?_ | refine Ops.no rfl rfl rfl rfl rfl ?_ | refine Ops.nu rfl rfl rfl rfl ?_ | with_reducible refine W.skip ?_ | with_reducible refine W.endb ?_ | with_reducible refine W.block ?_ | refine W.exit rfl ?_ | refine Ops.len rfl rfl rfl rfl rfl ?_ | refine Ops.flp rfl rfl rfl rfl rfl ?_ | refine Ops.max rfl rfl rfl rfl rfl ?_ | refine Ops.min rfl rfl rfl rfl rfl ?_ | refine Ops.eqB rfl rfl rfl rfl rfl rfl ?_ | refine Ops.neB rfl rfl rfl rfl rfl rfl ?_ | (apply Ops.ldB rfl rfl rfl rfl rfl; assumption; rfl)))
    refine Ops.callS rfl rfl rfl rfl rfl (within_c _ _ _ _) ?_
    refine Ops.cut (fun ρ w' => ∃ b : Bool, ρ = [(0, .pointer (some ⟨g, 0, none⟩)), (1, .slice A xs.length c), (6, .map (some mb)), (8, .int .i64 cj), (10, .slice A xs.length c), (11, .int .i64 xs.length), (12, .int .i64 j), (44, .bool b)] ∧ w' = w3 ∧ (b = false ↔ okAt l xs j)) ?_ ?_
    · (repeat' (first | with_reducible refine W.seq ?_ | with_reducible refine Ops.nil ?_ | with_reducible refine W.region ?_ | refine Ops.pu rfl rfl rfl ?_ | refine Ops.ar rfl rfl rfl (by omega) ?_ | refine Ops.yes rfl rfl rfl ?_ | refine Ops.no rfl rfl rfl rfl rfl ?_ | refine Ops.nu rfl rfl rfl rfl ?_ | with_reducible refine W.skip ?_ | with_reducible refine W.endb ?_ | with_reducible refine W.block ?_ | refine W.exit rfl ?_ | refine Ops.len rfl rfl rfl rfl rfl ?_ | refine Ops.flp rfl rfl rfl rfl rfl ?_ | refine Ops.max rfl rfl rfl rfl rfl ?_ | refine Ops.min rfl rfl rfl rfl rfl ?_ | refine Ops.eqB rfl rfl rfl rfl rfl rfl ?_ | refine Ops.neB rfl rfl rfl rfl rfl rfl ?_ | (apply Ops.ldB rfl rfl rfl rfl rfl; assumption; rfl) | refine Ops.gdT rfl rfl rfl rfl (fun _ => ?_) (fun _ => ?_) | refine Ops.gdF rfl rfl rfl rfl (fun _ => ?_) (fun _ => ?_) | refine Ops.callS rfl rfl rfl rfl rfl (isLeaf_c hG3 cj (by rename_i hh; simp at hh; omega) (by rename_i hh; simp at hh; omega)) ?_ | (refine Ops.rdSg (enc := Value.int .i64) (z := (0 : Int)) rfl rfl rfl rfl rfl rfl rfl rfl rfl rfl rfl rfl rfl rfl hv3 (by rename_i hh; simp at hh; omega) (by rename_i hh; simp at hh; omega) (fun p => ?_))))
      all_goals refine W.endl ⟨_, ⟨_, rfl, rfl, ?_⟩, (by repeat (first | exact trivial | refine And.intro rfl ?_))⟩
      all_goals rw [hoj]
      all_goals clear hG hG3 hB hB3 hv hv3 hTr hD hm hm3 hok
      · rename_i h1
        refine ⟨fun h => by simp at h, fun h => ?_⟩
        obtain ⟨q1, q2, _⟩ := h
        simp [q1] at h1
        omega
      · rename_i h1 h2
        refine ⟨fun h => by simp at h, fun h => ?_⟩
        obtain ⟨_, _, q3, _⟩ := h
        simp [q3] at h2
      · rename_i h1 h2 h3
        simp at h1 h2 h3
        rw [show ((j : Int) - 1).toNat = j - 1 by omega]
        simp only [decide_eq_false_iff_not, ge_iff_le]
        exact ⟨fun h => ⟨h1.1, h1.2, h2, fun _ => by omega⟩, fun h => by have := h.2.2.2 h3; omega⟩
      · rename_i h1 h2 h3
        simp at h1 h2 h3
        exact ⟨fun _ => ⟨h1.1, h1.2, h2, fun h => by omega⟩, fun _ => rfl⟩
    · rintro ρ w4 ⟨b, rfl, rfl, hb⟩
      refine W.cond rfl (fun hc2 => ?_) (fun hc2 => ?_)
      · (repeat (first | with_reducible refine W.seq ?_ | with_reducible refine Ops.nil ?_ | with_reducible refine W.region ?_ | refine Ops.pu rfl rfl rfl ?_ | refine Ops.ar rfl rfl rfl (by omega) ?_ | refine Ops.yes rfl rfl rfl ?_ | refine Ops.no rfl rfl rfl rfl rfl ?_ | refine Ops.nu rfl rfl rfl rfl ?_ | with_reducible refine W.skip ?_ | with_reducible refine W.endb ?_ | with_reducible refine W.block ?_ | refine W.exit rfl ?_ | refine Ops.len rfl rfl rfl rfl rfl ?_ | refine Ops.flp rfl rfl rfl rfl rfl ?_ | refine Ops.max rfl rfl rfl rfl rfl ?_ | refine Ops.min rfl rfl rfl rfl rfl ?_ | refine Ops.eqB rfl rfl rfl rfl rfl rfl ?_ | refine Ops.neB rfl rfl rfl rfl rfl rfl ?_ | (apply Ops.ldB rfl rfl rfl rfl rfl; assumption; rfl)))
        refine W.fret rfl ⟨hb3, .inr ⟨fun h => ?_, rfl⟩⟩
        have := hb.2 (h j hlt)
        rw [hc2] at this
        simp at this
      · (repeat (first | with_reducible refine W.seq ?_ | with_reducible refine Ops.nil ?_ | with_reducible refine W.region ?_ | refine Ops.pu rfl rfl rfl ?_ | refine Ops.ar rfl rfl rfl (by omega) ?_ | refine Ops.yes rfl rfl rfl ?_ | refine Ops.no rfl rfl rfl rfl rfl ?_ | refine Ops.nu rfl rfl rfl rfl ?_ | with_reducible refine W.skip ?_ | with_reducible refine W.endb ?_ | with_reducible refine W.block ?_ | refine W.exit rfl ?_ | refine Ops.len rfl rfl rfl rfl rfl ?_ | refine Ops.flp rfl rfl rfl rfl rfl ?_ | refine Ops.max rfl rfl rfl rfl rfl ?_ | refine Ops.min rfl rfl rfl rfl rfl ?_ | refine Ops.eqB rfl rfl rfl rfl rfl rfl ?_ | refine Ops.neB rfl rfl rfl rfl rfl rfl ?_ | (apply Ops.ldB rfl rfl rfl rfl rfl; assumption; rfl)))
        refine Ops.put rfl rfl rfl rfl rfl rfl rfl rfl hm3 (fun w5 hm5 k5 _ => ?_)
        have hb5 : Below w.heap.size w w5 := Below.at_ hb3 k5 (fun i hi => by omega)
        have hm5' : MapB w5 mb (fun k => (xs.take (j + 1)).contains k) := by
          have e : (fun k => (xs.take (j + 1)).contains k) = fun k => (xs.take j).contains k || k == cj := funext htk
          rw [e]
          exact hm5
        (repeat (first | with_reducible refine W.seq ?_ | with_reducible refine Ops.nil ?_ | with_reducible refine W.region ?_ | refine Ops.pu rfl rfl rfl ?_ | refine Ops.ar rfl rfl rfl (by omega) ?_ | refine Ops.yes rfl rfl rfl ?_ | refine Ops.no rfl rfl rfl rfl rfl ?_ | refine Ops.nu rfl rfl rfl rfl ?_ | with_reducible refine W.skip ?_ | with_reducible refine W.endb ?_ | with_reducible refine W.block ?_ | refine W.exit rfl ?_ | refine Ops.len rfl rfl rfl rfl rfl ?_ | refine Ops.flp rfl rfl rfl rfl rfl ?_ | refine Ops.max rfl rfl rfl rfl rfl ?_ | refine Ops.min rfl rfl rfl rfl rfl ?_ | refine Ops.eqB rfl rfl rfl rfl rfl rfl ?_ | refine Ops.neB rfl rfl rfl rfl rfl rfl ?_ | (apply Ops.ldB rfl rfl rfl rfl rfl; assumption; rfl)))
        refine W.endl ⟨_, _, ⟨⟨j + 1, rfl, by omega, rfl, hb5, hm5', fun k hk => ?_⟩, by omega⟩, (by repeat (first | exact trivial | refine And.intro rfl ?_))⟩
        by_cases e : k = j
        · rw [e]; exact hb.1 hc2
        · exact hok k (by omega)
  · have hlt : j = xs.length := by simp at hc; omega
    subst hlt
    rw [List.take_length] at hm3
    (repeat (first | with_reducible refine W.seq ?_ | with_reducible refine Ops.nil ?_ | with_reducible refine W.region ?_ | refine Ops.pu rfl rfl rfl ?_ | refine Ops.ar rfl rfl rfl (by omega) ?_ | refine Ops.yes rfl rfl rfl ?_ | refine Ops.no rfl rfl rfl rfl rfl ?_ | refine Ops.nu rfl rfl rfl rfl ?_ | with_reducible refine W.skip ?_ | with_reducible refine W.endb ?_ | with_reducible refine W.block ?_ | refine W.exit rfl ?_ | refine Ops.len rfl rfl rfl rfl rfl ?_ | refine Ops.flp rfl rfl rfl rfl rfl ?_ | refine Ops.max rfl rfl rfl rfl rfl ?_ | refine Ops.min rfl rfl rfl rfl rfl ?_ | refine Ops.eqB rfl rfl rfl rfl rfl rfl ?_ | refine Ops.neB rfl rfl rfl rfl rfl rfl ?_ | (apply Ops.ldB rfl rfl rfl rfl rfl; assumption; rfl)))
    exact W.fret rfl ⟨hb3, .inl ⟨hok, mb, rfl, by omega, hm3⟩⟩
/-- The worth of what is known, and very little for the rest. -/
def worstF (l : List Nd) (xs : List Int) (i : Int) : Int := if xs.contains i then wor l i else -far
theorem decides1_c {w : World} {bm bg g m : Nat} {l : List Nd} {dep xs : List Int} (hG : Game w g l dep) (h1 : Blk w bg #[.pointer (some ⟨g, 0, none⟩)] 69) (h2 : Blk w bm #[.map (some m)] 79) (hm : MapB w m (fun k => xs.contains k)) (i : Int) (h0 : 0 ≤ i) (hi : i < l.length) :
    Calls Try.prog 68 #[.int .i64 i, .pointer (some ⟨bm, 0, none⟩), .pointer (some ⟨bg, 0, none⟩)] w (Ret fun v w' => v = .int .i64 (worstF l xs i) ∧ Below w.heap.size w w') := by
  refine calls_W (vs := [_, _, _]) Try.func68 rfl (by kernel_rfl) rfl ?_
  (repeat (first | with_reducible refine W.seq ?_ | with_reducible refine Ops.nil ?_ | with_reducible refine W.region ?_ | refine Ops.pu rfl rfl rfl ?_ | refine Ops.ar rfl rfl rfl (by omega) ?_ | refine Ops.yes rfl rfl rfl ?_ | refine Ops.no rfl rfl rfl rfl rfl ?_ | refine Ops.nu rfl rfl rfl rfl ?_ | with_reducible refine W.skip ?_ | with_reducible refine W.endb ?_ | with_reducible refine W.block ?_ | refine W.exit rfl ?_ | refine Ops.len rfl rfl rfl rfl rfl ?_ | refine Ops.flp rfl rfl rfl rfl rfl ?_ | refine Ops.max rfl rfl rfl rfl rfl ?_ | refine Ops.min rfl rfl rfl rfl rfl ?_ | refine Ops.eqB rfl rfl rfl rfl rfl rfl ?_ | refine Ops.neB rfl rfl rfl rfl rfl rfl ?_ | (apply Ops.ldB rfl rfl rfl rfl rfl; assumption; rfl)))
  refine Ops.look rfl rfl rfl rfl rfl rfl rfl rfl hm ?_
  (repeat (first | with_reducible refine W.seq ?_ | with_reducible refine Ops.nil ?_ | with_reducible refine W.region ?_ | refine Ops.pu rfl rfl rfl ?_ | refine Ops.ar rfl rfl rfl (by omega) ?_ | refine Ops.yes rfl rfl rfl ?_ | refine Ops.no rfl rfl rfl rfl rfl ?_ | refine Ops.nu rfl rfl rfl rfl ?_ | with_reducible refine W.skip ?_ | with_reducible refine W.endb ?_ | with_reducible refine W.block ?_ | refine W.exit rfl ?_ | refine Ops.len rfl rfl rfl rfl rfl ?_ | refine Ops.flp rfl rfl rfl rfl rfl ?_ | refine Ops.max rfl rfl rfl rfl rfl ?_ | refine Ops.min rfl rfl rfl rfl rfl ?_ | refine Ops.eqB rfl rfl rfl rfl rfl rfl ?_ | refine Ops.neB rfl rfl rfl rfl rfl rfl ?_ | (apply Ops.ldB rfl rfl rfl rfl rfl; assumption; rfl)))
  refine W.cond rfl (fun hc => ?_) (fun hc => ?_)
  · (repeat (first | with_reducible refine W.seq ?_ | with_reducible refine Ops.nil ?_ | with_reducible refine W.region ?_ | refine Ops.pu rfl rfl rfl ?_ | refine Ops.ar rfl rfl rfl (by omega) ?_ | refine Ops.yes rfl rfl rfl ?_ | refine Ops.no rfl rfl rfl rfl rfl ?_ | refine Ops.nu rfl rfl rfl rfl ?_ | with_reducible refine W.skip ?_ | with_reducible refine W.endb ?_ | with_reducible refine W.block ?_ | refine W.exit rfl ?_ | refine Ops.len rfl rfl rfl rfl rfl ?_ | refine Ops.flp rfl rfl rfl rfl rfl ?_ | refine Ops.max rfl rfl rfl rfl rfl ?_ | refine Ops.min rfl rfl rfl rfl rfl ?_ | refine Ops.eqB rfl rfl rfl rfl rfl rfl ?_ | refine Ops.neB rfl rfl rfl rfl rfl rfl ?_ | (apply Ops.ldB rfl rfl rfl rfl rfl; assumption; rfl)))
    refine Ops.callS rfl rfl rfl rfl rfl (worth_c hG i h0 hi) ?_
    (repeat (first | with_reducible refine W.seq ?_ | with_reducible refine Ops.nil ?_ | with_reducible refine W.region ?_ | refine Ops.pu rfl rfl rfl ?_ | refine Ops.ar rfl rfl rfl (by omega) ?_ | refine Ops.yes rfl rfl rfl ?_ | refine Ops.no rfl rfl rfl rfl rfl ?_ | refine Ops.nu rfl rfl rfl rfl ?_ | with_reducible refine W.skip ?_ | with_reducible refine W.endb ?_ | with_reducible refine W.block ?_ | refine W.exit rfl ?_ | refine Ops.len rfl rfl rfl rfl rfl ?_ | refine Ops.flp rfl rfl rfl rfl rfl ?_ | refine Ops.max rfl rfl rfl rfl rfl ?_ | refine Ops.min rfl rfl rfl rfl rfl ?_ | refine Ops.eqB rfl rfl rfl rfl rfl rfl ?_ | refine Ops.neB rfl rfl rfl rfl rfl rfl ?_ | (apply Ops.ldB rfl rfl rfl rfl rfl; assumption; rfl)))
    exact W.fret rfl ⟨by rw [worstF, if_pos hc]; rfl, Below.refl _ _⟩
  · (repeat (first | with_reducible refine W.seq ?_ | with_reducible refine Ops.nil ?_ | with_reducible refine W.region ?_ | refine Ops.pu rfl rfl rfl ?_ | refine Ops.ar rfl rfl rfl (by omega) ?_ | refine Ops.yes rfl rfl rfl ?_ | refine Ops.no rfl rfl rfl rfl rfl ?_ | refine Ops.nu rfl rfl rfl rfl ?_ | with_reducible refine W.skip ?_ | with_reducible refine W.endb ?_ | with_reducible refine W.block ?_ | refine W.exit rfl ?_ | refine Ops.len rfl rfl rfl rfl rfl ?_ | refine Ops.flp rfl rfl rfl rfl rfl ?_ | refine Ops.max rfl rfl rfl rfl rfl ?_ | refine Ops.min rfl rfl rfl rfl rfl ?_ | refine Ops.eqB rfl rfl rfl rfl rfl rfl ?_ | refine Ops.neB rfl rfl rfl rfl rfl rfl ?_ | (apply Ops.ldB rfl rfl rfl rfl rfl; assumption; rfl)))
    exact W.fret rfl ⟨by rw [worstF, if_neg (by rw [hc]; simp)]; rfl, Below.refl _ _⟩
/-- What a leaf needs, if some are known. -/
def numF (l : List Nd) (xs : List Int) (b : Int) (mx : Bool) (i : Int) : Int := if xs.contains i then (if decide (b ≤ wor l i) == mx then 0 else far) else 1
theorem numbers11_c {w : World} {bm bg bb bx g m : Nat} {l : List Nd} {dep xs : List Int} {b : Int} {mx : Bool} (hG : Game w g l dep) (h1 : Blk w bg #[.pointer (some ⟨g, 0, none⟩)] 69) (h2 : Blk w bm #[.map (some m)] 79) (h3 : Blk w bb #[.int .i64 b] 3) (h4 : Blk w bx #[.bool mx] 4) (hm : MapB w m (fun k => xs.contains k)) (i : Int) (h0 : 0 ≤ i) (hi : i < l.length) :
    Calls Try.prog 72 #[.int .i64 i, .pointer (some ⟨bm, 0, none⟩), .pointer (some ⟨bg, 0, none⟩), .pointer (some ⟨bb, 0, none⟩), .pointer (some ⟨bx, 0, none⟩)] w (Ret fun v w' => v = .int .i64 (numF l xs b mx i) ∧ Below w.heap.size w w') := by
  refine calls_W (vs := [_, _, _, _, _]) Try.func72 rfl (by kernel_rfl) rfl ?_
  (repeat (first | with_reducible refine W.seq ?_ | with_reducible refine Ops.nil ?_ | with_reducible refine W.region ?_ | refine Ops.pu rfl rfl rfl ?_ | refine Ops.ar rfl rfl rfl (by omega) ?_ | refine Ops.yes rfl rfl rfl ?_ | refine Ops.no rfl rfl rfl rfl rfl ?_ | refine Ops.nu rfl rfl rfl rfl ?_ | with_reducible refine W.skip ?_ | with_reducible refine W.endb ?_ | with_reducible refine W.block ?_ | refine W.exit rfl ?_ | refine Ops.len rfl rfl rfl rfl rfl ?_ | refine Ops.flp rfl rfl rfl rfl rfl ?_ | refine Ops.max rfl rfl rfl rfl rfl ?_ | refine Ops.min rfl rfl rfl rfl rfl ?_ | refine Ops.eqB rfl rfl rfl rfl rfl rfl ?_ | refine Ops.neB rfl rfl rfl rfl rfl rfl ?_ | (apply Ops.ldB rfl rfl rfl rfl rfl; assumption; rfl)))
  refine Ops.look rfl rfl rfl rfl rfl rfl rfl rfl hm ?_
  (repeat (first | with_reducible refine W.seq ?_ | with_reducible refine Ops.nil ?_ | with_reducible refine W.region ?_ | refine Ops.pu rfl rfl rfl ?_ | refine Ops.ar rfl rfl rfl (by omega) ?_ | refine Ops.yes rfl rfl rfl ?_ | refine Ops.no rfl rfl rfl rfl rfl ?_ | refine Ops.nu rfl rfl rfl rfl ?_ | with_reducible refine W.skip ?_ | with_reducible refine W.endb ?_ | with_reducible refine W.block ?_ | refine W.exit rfl ?_ | refine Ops.len rfl rfl rfl rfl rfl ?_ | refine Ops.flp rfl rfl rfl rfl rfl ?_ | refine Ops.max rfl rfl rfl rfl rfl ?_ | refine Ops.min rfl rfl rfl rfl rfl ?_ | refine Ops.eqB rfl rfl rfl rfl rfl rfl ?_ | refine Ops.neB rfl rfl rfl rfl rfl rfl ?_ | (apply Ops.ldB rfl rfl rfl rfl rfl; assumption; rfl)))
  refine W.cond rfl (fun hc => ?_) (fun hc => ?_)
  · (repeat (first | with_reducible refine W.seq ?_ | with_reducible refine Ops.nil ?_ | with_reducible refine W.region ?_ | refine Ops.pu rfl rfl rfl ?_ | refine Ops.ar rfl rfl rfl (by omega) ?_ | refine Ops.yes rfl rfl rfl ?_ | refine Ops.no rfl rfl rfl rfl rfl ?_ | refine Ops.nu rfl rfl rfl rfl ?_ | with_reducible refine W.skip ?_ | with_reducible refine W.endb ?_ | with_reducible refine W.block ?_ | refine W.exit rfl ?_ | refine Ops.len rfl rfl rfl rfl rfl ?_ | refine Ops.flp rfl rfl rfl rfl rfl ?_ | refine Ops.max rfl rfl rfl rfl rfl ?_ | refine Ops.min rfl rfl rfl rfl rfl ?_ | refine Ops.eqB rfl rfl rfl rfl rfl rfl ?_ | refine Ops.neB rfl rfl rfl rfl rfl rfl ?_ | (apply Ops.ldB rfl rfl rfl rfl rfl; assumption; rfl)))
    exact W.fret rfl ⟨by rw [numF, if_neg (by simpa using hc)]; rfl, Below.refl _ _⟩
  · (repeat (first | with_reducible refine W.seq ?_ | with_reducible refine Ops.nil ?_ | with_reducible refine W.region ?_ | refine Ops.pu rfl rfl rfl ?_ | refine Ops.ar rfl rfl rfl (by omega) ?_ | refine Ops.yes rfl rfl rfl ?_ | refine Ops.no rfl rfl rfl rfl rfl ?_ | refine Ops.nu rfl rfl rfl rfl ?_ | with_reducible refine W.skip ?_ | with_reducible refine W.endb ?_ | with_reducible refine W.block ?_ | refine W.exit rfl ?_ | refine Ops.len rfl rfl rfl rfl rfl ?_ | refine Ops.flp rfl rfl rfl rfl rfl ?_ | refine Ops.max rfl rfl rfl rfl rfl ?_ | refine Ops.min rfl rfl rfl rfl rfl ?_ | refine Ops.eqB rfl rfl rfl rfl rfl rfl ?_ | refine Ops.neB rfl rfl rfl rfl rfl rfl ?_ | (apply Ops.ldB rfl rfl rfl rfl rfl; assumption; rfl)))
    refine W.still' rfl (by kernel_rfl) (fun w1 k1 _ => ?_)
    have hG' := hG.below (k1.below (Nat.le_refl _) (fun _ _ e => e))
    have h1' := h1.kp k1 (fun e => e)
    have h3' := h3.kp k1 (fun e => e)
    have h4' := h4.kp k1 (fun e => e)
    have hbl : Below w.heap.size w w1 := k1.below (Nat.le_refl _) (fun _ _ e => e)
    (repeat (first | with_reducible refine W.seq ?_ | with_reducible refine Ops.nil ?_ | with_reducible refine W.region ?_ | refine Ops.pu rfl rfl rfl ?_ | refine Ops.ar rfl rfl rfl (by omega) ?_ | refine Ops.yes rfl rfl rfl ?_ | refine Ops.no rfl rfl rfl rfl rfl ?_ | refine Ops.nu rfl rfl rfl rfl ?_ | with_reducible refine W.skip ?_ | with_reducible refine W.endb ?_ | with_reducible refine W.block ?_ | refine W.exit rfl ?_ | refine Ops.len rfl rfl rfl rfl rfl ?_ | refine Ops.flp rfl rfl rfl rfl rfl ?_ | refine Ops.max rfl rfl rfl rfl rfl ?_ | refine Ops.min rfl rfl rfl rfl rfl ?_ | refine Ops.eqB rfl rfl rfl rfl rfl rfl ?_ | refine Ops.neB rfl rfl rfl rfl rfl rfl ?_ | (apply Ops.ldB rfl rfl rfl rfl rfl; assumption; rfl)))
    refine Ops.callS rfl rfl rfl rfl rfl (worth_c hG' i h0 hi) ?_
    (repeat (first | with_reducible refine W.seq ?_ | with_reducible refine Ops.nil ?_ | with_reducible refine W.region ?_ | refine Ops.pu rfl rfl rfl ?_ | refine Ops.ar rfl rfl rfl (by omega) ?_ | refine Ops.yes rfl rfl rfl ?_ | refine Ops.no rfl rfl rfl rfl rfl ?_ | refine Ops.nu rfl rfl rfl rfl ?_ | with_reducible refine W.skip ?_ | with_reducible refine W.endb ?_ | with_reducible refine W.block ?_ | refine W.exit rfl ?_ | refine Ops.len rfl rfl rfl rfl rfl ?_ | refine Ops.flp rfl rfl rfl rfl rfl ?_ | refine Ops.max rfl rfl rfl rfl rfl ?_ | refine Ops.min rfl rfl rfl rfl rfl ?_ | refine Ops.eqB rfl rfl rfl rfl rfl rfl ?_ | refine Ops.neB rfl rfl rfl rfl rfl rfl ?_ | (apply Ops.ldB rfl rfl rfl rfl rfl; assumption; rfl)))
    refine Ops.nilS rfl ?_
    (repeat (first | with_reducible refine W.seq ?_ | with_reducible refine Ops.nil ?_ | with_reducible refine W.region ?_ | refine Ops.pu rfl rfl rfl ?_ | refine Ops.ar rfl rfl rfl (by omega) ?_ | refine Ops.yes rfl rfl rfl ?_ | refine Ops.no rfl rfl rfl rfl rfl ?_ | refine Ops.nu rfl rfl rfl rfl ?_ | with_reducible refine W.skip ?_ | with_reducible refine W.endb ?_ | with_reducible refine W.block ?_ | refine W.exit rfl ?_ | refine Ops.len rfl rfl rfl rfl rfl ?_ | refine Ops.flp rfl rfl rfl rfl rfl ?_ | refine Ops.max rfl rfl rfl rfl rfl ?_ | refine Ops.min rfl rfl rfl rfl rfl ?_ | refine Ops.eqB rfl rfl rfl rfl rfl rfl ?_ | refine Ops.neB rfl rfl rfl rfl rfl rfl ?_ | (apply Ops.ldB rfl rfl rfl rfl rfl; assumption; rfl)))
    refine W.cond rfl (fun hc2 => ?_) (fun hc2 => ?_)
    · (repeat (first | with_reducible refine W.seq ?_ | with_reducible refine Ops.nil ?_ | with_reducible refine W.region ?_ | refine Ops.pu rfl rfl rfl ?_ | refine Ops.ar rfl rfl rfl (by omega) ?_ | refine Ops.yes rfl rfl rfl ?_ | refine Ops.no rfl rfl rfl rfl rfl ?_ | refine Ops.nu rfl rfl rfl rfl ?_ | with_reducible refine W.skip ?_ | with_reducible refine W.endb ?_ | with_reducible refine W.block ?_ | refine W.exit rfl ?_ | refine Ops.len rfl rfl rfl rfl rfl ?_ | refine Ops.flp rfl rfl rfl rfl rfl ?_ | refine Ops.max rfl rfl rfl rfl rfl ?_ | refine Ops.min rfl rfl rfl rfl rfl ?_ | refine Ops.eqB rfl rfl rfl rfl rfl rfl ?_ | refine Ops.neB rfl rfl rfl rfl rfl rfl ?_ | (apply Ops.ldB rfl rfl rfl rfl rfl; assumption; rfl)))
      exact W.fret rfl ⟨by rw [numF, if_pos (by simpa using hc), if_pos (by simpa using hc2)]; rfl, hbl⟩
    · (repeat (first | with_reducible refine W.seq ?_ | with_reducible refine Ops.nil ?_ | with_reducible refine W.region ?_ | refine Ops.pu rfl rfl rfl ?_ | refine Ops.ar rfl rfl rfl (by omega) ?_ | refine Ops.yes rfl rfl rfl ?_ | refine Ops.no rfl rfl rfl rfl rfl ?_ | refine Ops.nu rfl rfl rfl rfl ?_ | with_reducible refine W.skip ?_ | with_reducible refine W.endb ?_ | with_reducible refine W.block ?_ | refine W.exit rfl ?_ | refine Ops.len rfl rfl rfl rfl rfl ?_ | refine Ops.flp rfl rfl rfl rfl rfl ?_ | refine Ops.max rfl rfl rfl rfl rfl ?_ | refine Ops.min rfl rfl rfl rfl rfl ?_ | refine Ops.eqB rfl rfl rfl rfl rfl rfl ?_ | refine Ops.neB rfl rfl rfl rfl rfl rfl ?_ | (apply Ops.ldB rfl rfl rfl rfl rfl; assumption; rfl)))
      exact W.fret rfl ⟨by rw [numF, if_pos (by simpa using hc), if_neg (by simpa using hc2)]; rfl, hbl⟩
end Go.Proofs.Ytdiljpnfochndaa
