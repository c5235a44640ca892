/- A part of the walk: what this seat's statements share. -/
import Derived.Test.YtdiljpnfochndaaZG3
import Derived.Test.YtdiljpnfochndaaZG4
import Derived.Test.YtdiljpnfochndaaZG2
set_option linter.unusedVariables false
set_option linter.unusedSimpArgs false
set_option linter.unusedSectionVars false
namespace Go.Proofs.Ytdiljpnfochndaa
open Go Go.RowKit Go.Proofs.Ytdiljpnfochndaa.VW
open Go.Proofs.Ytdiljpnfochndaa.HP (Nd kid wor leafB rd evB TF)
attribute [local irreducible] W Ops
theorem grow_c {w : World} (i : Int) (h0 : 0 ≤ i) (h1 : i ≤ 1000000) : Calls Try.prog 102 #[.slice none 0 0, .int .i64 i] w (Ret fun r w' => FInv w w' r []) := by
  refine calls_W (vs := [_, _]) Try.func102 rfl (by kernel_rfl) rfl ?_
  (repeat (first | with_reducible refine W.seq ?_ | with_reducible refine Ops.nil ?_ | with_reducible refine W.region ?_ | refine z_p (kk := ?_) | refine z_a (kk := ?_) | refine z_y (kk := ?_) | refine z_n (kk := ?_) | refine z_u (kk := ?_) | with_reducible refine W.skip ?_ | with_reducible refine W.endb ?_ | with_reducible refine W.block ?_ | refine W.exit rfl ?_ | refine z_l (kk := ?_) | refine z_f (kk := ?_) | refine z_M (kk := ?_) | refine z_m (kk := ?_) | refine z_e (kk := ?_) | refine z_E (kk := ?_) | refine z_d (kk := ?_)))
  refine W.cond rfl (fun hc => ?_) (fun hc => ?_)
  · simp at hc; omega
  (repeat (first | with_reducible refine W.seq ?_ | with_reducible refine Ops.nil ?_ | with_reducible refine W.region ?_ | refine z_p (kk := ?_) | refine z_a (kk := ?_) | refine z_y (kk := ?_) | refine z_n (kk := ?_) | refine z_u (kk := ?_) | with_reducible refine W.skip ?_ | with_reducible refine W.endb ?_ | with_reducible refine W.block ?_ | refine W.exit rfl ?_ | refine z_l (kk := ?_) | refine z_f (kk := ?_) | refine z_M (kk := ?_) | refine z_m (kk := ?_) | refine z_e (kk := ?_) | refine z_E (kk := ?_) | refine z_d (kk := ?_)))
  refine Ops.cap rfl rfl rfl rfl rfl ?_
  (repeat (first | with_reducible refine W.seq ?_ | with_reducible refine Ops.nil ?_ | with_reducible refine W.region ?_ | refine z_p (kk := ?_) | refine z_a (kk := ?_) | refine z_y (kk := ?_) | refine z_n (kk := ?_) | refine z_u (kk := ?_) | with_reducible refine W.skip ?_ | with_reducible refine W.endb ?_ | with_reducible refine W.block ?_ | refine W.exit rfl ?_ | refine z_l (kk := ?_) | refine z_f (kk := ?_) | refine z_M (kk := ?_) | refine z_m (kk := ?_) | refine z_e (kk := ?_) | refine z_E (kk := ?_) | refine z_d (kk := ?_)))
  refine W.cond rfl (fun hc => ?_) (fun hc => ?_)
  · simp at hc
    (repeat (first | with_reducible refine W.seq ?_ | with_reducible refine Ops.nil ?_ | with_reducible refine W.region ?_ | refine z_p (kk := ?_) | refine z_a (kk := ?_) | refine z_y (kk := ?_) | refine z_n (kk := ?_) | refine z_u (kk := ?_) | with_reducible refine W.skip ?_ | with_reducible refine W.endb ?_ | with_reducible refine W.block ?_ | refine W.exit rfl ?_ | refine z_l (kk := ?_) | refine z_f (kk := ?_) | refine z_M (kk := ?_) | refine z_m (kk := ?_) | refine z_e (kk := ?_) | refine z_E (kk := ?_) | refine z_d (kk := ?_)))
    refine Ops.cap rfl rfl rfl rfl rfl ?_
    refine Ops.slH rfl rfl rfl rfl rfl rfl rfl (by simp) (by simp) ?_
    (repeat (first | with_reducible refine W.seq ?_ | with_reducible refine Ops.nil ?_ | with_reducible refine W.region ?_ | refine z_p (kk := ?_) | refine z_a (kk := ?_) | refine z_y (kk := ?_) | refine z_n (kk := ?_) | refine z_u (kk := ?_) | with_reducible refine W.skip ?_ | with_reducible refine W.endb ?_ | with_reducible refine W.block ?_ | refine W.exit rfl ?_ | refine z_l (kk := ?_) | refine z_f (kk := ?_) | refine z_M (kk := ?_) | refine z_m (kk := ?_) | refine z_e (kk := ?_) | refine z_E (kk := ?_) | refine z_d (kk := ?_)))
    refine Ops.appZ rfl rfl rfl rfl rfl rfl rfl rfl rfl rfl rfl (by omega) (by omega) (fun r c w1 hr hcap hown k1 => ?_)
    (repeat (first | with_reducible refine W.seq ?_ | with_reducible refine Ops.nil ?_ | with_reducible refine W.region ?_ | refine z_p (kk := ?_) | refine z_a (kk := ?_) | refine z_y (kk := ?_) | refine z_n (kk := ?_) | refine z_u (kk := ?_) | with_reducible refine W.skip ?_ | with_reducible refine W.endb ?_ | with_reducible refine W.block ?_ | refine W.exit rfl ?_ | refine z_l (kk := ?_) | refine z_f (kk := ?_) | refine z_M (kk := ?_) | refine z_m (kk := ?_) | refine z_e (kk := ?_) | refine z_E (kk := ?_) | refine z_d (kk := ?_)))
    refine Ops.slH rfl rfl rfl rfl rfl rfl rfl (by simp) (by simp) ?_
    (repeat (first | with_reducible refine W.seq ?_ | with_reducible refine Ops.nil ?_ | with_reducible refine W.region ?_ | refine z_p (kk := ?_) | refine z_a (kk := ?_) | refine z_y (kk := ?_) | refine z_n (kk := ?_) | refine z_u (kk := ?_) | with_reducible refine W.skip ?_ | with_reducible refine W.endb ?_ | with_reducible refine W.block ?_ | refine W.exit rfl ?_ | refine z_l (kk := ?_) | refine z_f (kk := ?_) | refine z_M (kk := ?_) | refine z_m (kk := ?_) | refine z_e (kk := ?_) | refine z_E (kk := ?_) | refine z_d (kk := ?_)))
    refine W.fret rfl ⟨k1.below (Nat.le_refl _) (fun _ _ e => e), hown, fun k hk => ?_⟩
    simp [resV, Value.ownBlock] at hk
    omega
  · (repeat (first | with_reducible refine W.seq ?_ | with_reducible refine Ops.nil ?_ | with_reducible refine W.region ?_ | refine z_p (kk := ?_) | refine z_a (kk := ?_) | refine z_y (kk := ?_) | refine z_n (kk := ?_) | refine z_u (kk := ?_) | with_reducible refine W.skip ?_ | with_reducible refine W.endb ?_ | with_reducible refine W.block ?_ | refine W.exit rfl ?_ | refine z_l (kk := ?_) | refine z_f (kk := ?_) | refine z_M (kk := ?_) | refine z_m (kk := ?_) | refine z_e (kk := ?_) | refine z_E (kk := ?_) | refine z_d (kk := ?_)))
    exact W.fret rfl (FInv.nil (Below.refl _ _))
/-- Slices of numbers in a slice of slices. -/
theorem concat_c {w : World} {r c : Nat} {svs : List Value} {xss : List (List Int)} (hB : Blk w r svs.toArray 24) (hl : svs.length = xss.length) (hs : ∀ j, j < xss.length → SlI w (svs.getD j undef) (xss.getD j [])) (hsum : xss.flatten.length ≤ 1000) (hn : xss.length ≤ 1000) :
    Calls Try.prog 94 #[.slice (some ⟨r, 0, none⟩) xss.length c] w (Ret fun v w' => FInv w w' v xss.flatten) := by
  have hcell : ∀ (w' : World) j, Below w.heap.size w w' → j < xss.length → w'.cell? ((⟨r, 0, none⟩ : Addr).add (j * 1)) = some (svs.getD j undef) := by
    intro w' j hb hj
    rw [Nat.mul_one, add_lit, Nat.zero_add]
    refine (hB.kp (Kp.of_below (S := fun _ => False) hb) (fun e => e)).cell ?_
    simp [List.getD_eq_getElem?_getD, hl, hj]
  have hpre : ∀ j, j ≤ xss.length → (xss.take j).flatten.length ≤ 1000 := by
    intro j hj
    have : xss.flatten.length = (xss.take j).flatten.length + (xss.drop j).flatten.length := by
      rw [← List.length_append, ← List.flatten_append, List.take_append_drop]
    omega
  have hstep : ∀ j, j < xss.length → (xss.take (j + 1)).flatten = (xss.take j).flatten ++ xss.getD j [] := by
    intro j hj
    rw [List.take_succ_eq_append_getElem hj, List.flatten_append]
    simp [List.getD_eq_getElem?_getD, hj]
  refine calls_W (vs := [_]) Try.func94 rfl (by kernel_rfl) rfl ?_
  (repeat (first | with_reducible refine W.seq ?_ | with_reducible refine Ops.nil ?_ | with_reducible refine W.region ?_ | refine z_p (kk := ?_) | refine z_a (kk := ?_) | refine z_y (kk := ?_) | refine z_n (kk := ?_) | refine z_u (kk := ?_) | with_reducible refine W.skip ?_ | with_reducible refine W.endb ?_ | with_reducible refine W.block ?_ | refine W.exit rfl ?_ | refine z_l (kk := ?_) | refine z_f (kk := ?_) | refine z_M (kk := ?_) | refine z_m (kk := ?_) | refine z_e (kk := ?_) | refine z_E (kk := ?_) | refine z_d (kk := ?_)))
  refine W.loop (fun m ρ w1 => ∃ j : Nat, m = xss.length - j ∧ j ≤ xss.length ∧ ρ = [(0, .slice (some ⟨r, 0, none⟩) xss.length c), (3, .int .i64 ((xss.take j).flatten.length : Nat)), (9, .slice (some ⟨r, 0, none⟩) xss.length c), (10, .int .i64 xss.length), (11, .int .i64 j)] ∧ w1 = w)
    ⟨_, _, ⟨0, rfl, Nat.zero_le _, rfl, rfl⟩, (by repeat (first | exact trivial | refine And.intro rfl ?_))⟩ ?_
  rintro m ρ w1 ⟨j, rfl, hj, rfl, rfl⟩
  (repeat (first | with_reducible refine W.seq ?_ | with_reducible refine Ops.nil ?_ | with_reducible refine W.region ?_ | refine z_p (kk := ?_) | refine z_a (kk := ?_) | refine z_y (kk := ?_) | refine z_n (kk := ?_) | refine z_u (kk := ?_) | with_reducible refine W.skip ?_ | with_reducible refine W.endb ?_ | with_reducible refine W.block ?_ | refine W.exit rfl ?_ | refine z_l (kk := ?_) | refine z_f (kk := ?_) | refine z_M (kk := ?_) | refine z_m (kk := ?_) | refine z_e (kk := ?_) | refine z_E (kk := ?_) | refine z_d (kk := ?_)))
  refine W.cond rfl (fun hc => ?_) (fun hc => ?_)
  · have hlt : j < xss.length := by simp at hc; omega
    have hsj := hs j hlt
    obtain ⟨Aj, cj, ej⟩ := Sl.sl hsj
    have hp1 := hpre (j + 1) (by omega)
    rw [hstep j hlt, List.length_append] at hp1
    (repeat (first | with_reducible refine W.seq ?_ | with_reducible refine Ops.nil ?_ | with_reducible refine W.region ?_ | refine z_p (kk := ?_) | refine z_a (kk := ?_) | refine z_y (kk := ?_) | refine z_n (kk := ?_) | refine z_u (kk := ?_) | with_reducible refine W.skip ?_ | with_reducible refine W.endb ?_ | with_reducible refine W.block ?_ | refine W.exit rfl ?_ | refine z_l (kk := ?_) | refine z_f (kk := ?_) | refine z_M (kk := ?_) | refine z_m (kk := ?_) | refine z_e (kk := ?_) | refine z_E (kk := ?_) | refine z_d (kk := ?_)))
    refine Ops.idx rfl rfl rfl rfl rfl rfl rfl (by omega) (by omega) (Ops.ld rfl rfl rfl rfl rfl (hcell w1 j (Below.refl _ _) hlt) ?_)
    rw [ej]
    (repeat (first | with_reducible refine W.seq ?_ | with_reducible refine Ops.nil ?_ | with_reducible refine W.region ?_ | refine z_p (kk := ?_) | refine z_a (kk := ?_) | refine z_y (kk := ?_) | refine z_n (kk := ?_) | refine z_u (kk := ?_) | with_reducible refine W.skip ?_ | with_reducible refine W.endb ?_ | with_reducible refine W.block ?_ | refine W.exit rfl ?_ | refine z_l (kk := ?_) | refine z_f (kk := ?_) | refine z_M (kk := ?_) | refine z_m (kk := ?_) | refine z_e (kk := ?_) | refine z_E (kk := ?_) | refine z_d (kk := ?_)))
    refine W.cond rfl (fun hc => ?_) (fun hc => ?_)
    · simp at hc; omega
    (repeat (first | with_reducible refine W.seq ?_ | with_reducible refine Ops.nil ?_ | with_reducible refine W.region ?_ | refine z_p (kk := ?_) | refine z_a (kk := ?_) | refine z_y (kk := ?_) | refine z_n (kk := ?_) | refine z_u (kk := ?_) | with_reducible refine W.skip ?_ | with_reducible refine W.endb ?_ | with_reducible refine W.block ?_ | refine W.exit rfl ?_ | refine z_l (kk := ?_) | refine z_f (kk := ?_) | refine z_M (kk := ?_) | refine z_m (kk := ?_) | refine z_e (kk := ?_) | refine z_E (kk := ?_) | refine z_d (kk := ?_)))
    refine W.endl ⟨_, _, ⟨⟨j + 1, rfl, by omega, rfl, rfl⟩, by omega⟩, ⟨rfl, ?_, rfl, rfl, rfl, trivial⟩⟩
    rw [hstep j hlt, List.length_append]
    rfl
  · have hlt : j = xss.length := by simp at hc; omega
    subst hlt
    rw [List.take_length]
    (repeat (first | with_reducible refine W.seq ?_ | with_reducible refine Ops.nil ?_ | with_reducible refine W.region ?_ | refine z_p (kk := ?_) | refine z_a (kk := ?_) | refine z_y (kk := ?_) | refine z_n (kk := ?_) | refine z_u (kk := ?_) | with_reducible refine W.skip ?_ | with_reducible refine W.endb ?_ | with_reducible refine W.block ?_ | refine W.exit rfl ?_ | refine z_l (kk := ?_) | refine z_f (kk := ?_) | refine z_M (kk := ?_) | refine z_m (kk := ?_) | refine z_e (kk := ?_) | refine z_E (kk := ?_) | refine z_d (kk := ?_)))
    refine Ops.call rfl rfl rfl rfl rfl (grow_c _ (by omega) (by omega)) (fun v w2 hI => ?_)
    (repeat (first | with_reducible refine W.seq ?_ | with_reducible refine Ops.nil ?_ | with_reducible refine W.region ?_ | refine z_p (kk := ?_) | refine z_a (kk := ?_) | refine z_y (kk := ?_) | refine z_n (kk := ?_) | refine z_u (kk := ?_) | with_reducible refine W.skip ?_ | with_reducible refine W.endb ?_ | with_reducible refine W.block ?_ | refine W.exit rfl ?_ | refine z_l (kk := ?_) | refine z_f (kk := ?_) | refine z_M (kk := ?_) | refine z_m (kk := ?_) | refine z_e (kk := ?_) | refine z_E (kk := ?_) | refine z_d (kk := ?_)))
    refine W.loop (fun m ρ w2 => ∃ (j : Nat) (v : Value), m = xss.length - j ∧ j ≤ xss.length ∧ ρ = [(6, v), (25, .slice (some ⟨r, 0, none⟩) xss.length c), (26, .int .i64 xss.length), (27, .int .i64 j)] ∧ FInv w1 w2 v (xss.take j).flatten)
      ⟨_, _, ⟨0, v, rfl, Nat.zero_le _, rfl, hI⟩, (by repeat (first | exact trivial | refine And.intro rfl ?_))⟩ ?_
    rintro m ρ w2 ⟨j, v, rfl, hj, rfl, hI⟩
    (repeat (first | with_reducible refine W.seq ?_ | with_reducible refine Ops.nil ?_ | with_reducible refine W.region ?_ | refine z_p (kk := ?_) | refine z_a (kk := ?_) | refine z_y (kk := ?_) | refine z_n (kk := ?_) | refine z_u (kk := ?_) | with_reducible refine W.skip ?_ | with_reducible refine W.endb ?_ | with_reducible refine W.block ?_ | refine W.exit rfl ?_ | refine z_l (kk := ?_) | refine z_f (kk := ?_) | refine z_M (kk := ?_) | refine z_m (kk := ?_) | refine z_e (kk := ?_) | refine z_E (kk := ?_) | refine z_d (kk := ?_)))
    refine W.cond rfl (fun hc => ?_) (fun hc => ?_)
    · have hlt : j < xss.length := by simp at hc; omega
      have hp1 := hpre (j + 1) (by omega)
      rw [hstep j hlt, List.length_append] at hp1
      (repeat (first | with_reducible refine W.seq ?_ | with_reducible refine Ops.nil ?_ | with_reducible refine W.region ?_ | refine z_p (kk := ?_) | refine z_a (kk := ?_) | refine z_y (kk := ?_) | refine z_n (kk := ?_) | refine z_u (kk := ?_) | with_reducible refine W.skip ?_ | with_reducible refine W.endb ?_ | with_reducible refine W.block ?_ | refine W.exit rfl ?_ | refine z_l (kk := ?_) | refine z_f (kk := ?_) | refine z_M (kk := ?_) | refine z_m (kk := ?_) | refine z_e (kk := ?_) | refine z_E (kk := ?_) | refine z_d (kk := ?_)))
      refine Ops.idx rfl rfl rfl rfl rfl rfl rfl (by omega) (by omega) (Ops.ld rfl rfl rfl rfl rfl (hcell w2 j hI.bel hlt) ?_)
      (repeat (first | with_reducible refine W.seq ?_ | with_reducible refine Ops.nil ?_ | with_reducible refine W.region ?_ | refine z_p (kk := ?_) | refine z_a (kk := ?_) | refine z_y (kk := ?_) | refine z_n (kk := ?_) | refine z_u (kk := ?_) | with_reducible refine W.skip ?_ | with_reducible refine W.endb ?_ | with_reducible refine W.block ?_ | refine W.exit rfl ?_ | refine z_l (kk := ?_) | refine z_f (kk := ?_) | refine z_M (kk := ?_) | refine z_m (kk := ?_) | refine z_e (kk := ?_) | refine z_E (kk := ?_) | refine z_d (kk := ?_)))
      refine Ops.appS (enc := Value.int .i64) (z0 := (0 : Int)) rfl rfl rfl rfl rfl rfl rfl rfl rfl rfl hI.own (Sl.below (hs j hlt) hI.bel) (fun _ => rfl) (by omega) (fun v' w3 ho k3 hn3 => ?_)
      have hI3 : FInv w1 w3 v' ((xss.take j).flatten ++ xss.getD j []) :=
        ⟨Below.at_ hI.bel k3 (fun i hi => hI.ge i hi), by simpa using ho, fun i hi => by rcases hn3 i hi with e | e; exact hI.ge i e; have := hI.bel.size; omega⟩
      rw [← hstep j hlt] at hI3
      (repeat (first | with_reducible refine W.seq ?_ | with_reducible refine Ops.nil ?_ | with_reducible refine W.region ?_ | refine z_p (kk := ?_) | refine z_a (kk := ?_) | refine z_y (kk := ?_) | refine z_n (kk := ?_) | refine z_u (kk := ?_) | with_reducible refine W.skip ?_ | with_reducible refine W.endb ?_ | with_reducible refine W.block ?_ | refine W.exit rfl ?_ | refine z_l (kk := ?_) | refine z_f (kk := ?_) | refine z_M (kk := ?_) | refine z_m (kk := ?_) | refine z_e (kk := ?_) | refine z_E (kk := ?_) | refine z_d (kk := ?_)))
      exact W.endl ⟨_, _, ⟨⟨j + 1, v', rfl, by omega, rfl, hI3⟩, by omega⟩, (by repeat (first | exact trivial | refine And.intro rfl ?_))⟩
    · have hlt : j = xss.length := by simp at hc; omega
      subst hlt
      rw [List.take_length] at hI
      (repeat (first | with_reducible refine W.seq ?_ | with_reducible refine Ops.nil ?_ | with_reducible refine W.region ?_ | refine z_p (kk := ?_) | refine z_a (kk := ?_) | refine z_y (kk := ?_) | refine z_n (kk := ?_) | refine z_u (kk := ?_) | with_reducible refine W.skip ?_ | with_reducible refine W.endb ?_ | with_reducible refine W.block ?_ | refine W.exit rfl ?_ | refine z_l (kk := ?_) | refine z_f (kk := ?_) | refine z_M (kk := ?_) | refine z_m (kk := ?_) | refine z_e (kk := ?_) | refine z_E (kk := ?_) | refine z_d (kk := ?_)))
      exact W.fret rfl hI
end Go.Proofs.Ytdiljpnfochndaa
namespace Go.Proofs.Ytdiljpnfochndaa
open Go Go.RowKit Go.Proofs.Ytdiljpnfochndaa.VW
open Go.Proofs.Ytdiljpnfochndaa.HP (Nd kid wor leafB rd evB TF far Ef ed pickF joinF NE NeedP GoodE)
attribute [local irreducible] W Ops
def Lf (w0 w : World) (ov lv : Value) (xs : List Int) : Prop := w.ownsRow 0 3 1 lv xs.length (xs.map (Value.int .i64)) ∧ ∀ k, lv.ownBlock = some k → w0.heap.size ≤ k ∧ ov.ownBlock ≠ some k
theorem Lf.kp {w0 w w' : World} {ov lv : Value} {xs : List Int} {S : Nat → Prop} (h : Lf w0 w ov lv xs) (k : Kp S w w') (hs : ∀ i, S i → w.heap.size ≤ i ∨ ov.ownBlock = some i) : Lf w0 w' ov lv xs :=
  ⟨own_kp h.1 k (fun i hi e => by rcases hs i e with h1 | h1; have := (h.1.lt i hi).2; omega; exact (h.2 i hi).2 h1), h.2⟩
theorem Lf.nil (w0 w : World) (ov : Value) : Lf w0 w ov (.slice none 0 0) [] := ⟨World.ownsRow_nil w 0 3 1, fun k hk => by simp [Value.ownBlock] at hk⟩
theorem Lf.sl {w0 w : World} {ov lv : Value} {xs : List Int} (h : Lf w0 w ov lv xs) : SlI w lv xs := own_sl (z := (0 : Int)) h.1
def EffC (w0 w : World) (ov : Value) (cs : List Value) (es : List Ef) : Prop :=
  w.ownsRow 0 84 2 ov es.length cs ∧ ∀ i, i < es.length → cs.getD (i * 2) undef = .int .i64 (es.getD i (0, [])).1 ∧ Lf w0 w ov (cs.getD (i * 2 + 1) undef) (es.getD i (0, [])).2
structure Eff (w0 w : World) (ov : Value) (es : List Ef) : Prop where
  bel : Below w0.heap.size w0 w
  ge : ∀ k, ov.ownBlock = some k → w0.heap.size ≤ k
  out : ∃ cs, EffC w0 w ov cs es
theorem Eff.kp {w0 w w' : World} {ov : Value} {es : List Ef} {S : Nat → Prop} (h : Eff w0 w ov es) (k : Kp S w w') (hs : ∀ i, S i → w.heap.size ≤ i) : Eff w0 w' ov es := by
  obtain ⟨cs, h1, h2⟩ := h.out
  exact ⟨Below.at_ h.bel k (fun i hi => by have := h.bel.size; have := hs i hi; omega), h.ge, cs, own_kp h1 k (fun i hi e => by have := (h1.lt i hi).2; have := hs i e; omega), fun i hi => ⟨(h2 i hi).1, (h2 i hi).2.kp k (fun j hj => .inl (hs j hj))⟩⟩
theorem lgetD_set_eq {α : Type} {cs : List α} {j : Nat} {u z : α} (h : j < cs.length) : (cs.set j u).getD j z = u := by rw [List.getD_eq_getElem?_getD, List.getElem?_set_self h]; rfl
theorem lgetD_set_ne {α : Type} {cs : List α} {j i : Nat} {u z : α} (h : j ≠ i) : (cs.set j u).getD i z = cs.getD i z := by rw [List.getD_eq_getElem?_getD, List.getElem?_set_ne h, ← List.getD_eq_getElem?_getD]
theorem Eff.setA {w0 w w' : World} {ov lv : Value} {es : List Ef} {cs : List Value} {q : Nat} {m : Int} {xs : List Int} (h : Eff w0 w ov es) (hc : EffC w0 w ov cs es) (hq : q < es.length)
    (hown : w'.ownsRow 0 84 2 ov es.length ((cs.set (q * 2) (.int .i64 m)).set (q * 2 + 1) lv)) (k : Kp (fun b => ov.ownBlock = some b) w w') (hl : Lf w0 w ov lv xs) : Eff w0 w' ov (es.set q (m, xs)) := by
  have hcl : cs.length = es.length * 2 := hc.1.1
  refine ⟨Below.at_ h.bel k (fun i hi => h.ge i hi), h.ge, _, by rw [List.length_set]; exact hown, fun i hi => ?_⟩
  rw [List.length_set] at hi
  by_cases e : q = i
  · subst e
    rw [lgetD_set_eq hq, lgetD_set_ne (by omega), lgetD_set_eq (by omega), lgetD_set_eq (by simp; omega)]
    exact ⟨rfl, hl.kp k (fun j hj => .inr hj)⟩
  · rw [lgetD_set_ne e, lgetD_set_ne (by omega), lgetD_set_ne (by omega), lgetD_set_ne (by omega), lgetD_set_ne (by omega)]
    exact ⟨(hc.2 i hi).1, (hc.2 i hi).2.kp k (fun j hj => .inr hj)⟩
theorem Eff.setM {w0 w w' : World} {ov : Value} {es : List Ef} {cs : List Value} {q : Nat} {m : Int} (h : Eff w0 w ov es) (hc : EffC w0 w ov cs es) (hq : q < es.length)
    (hown : w'.ownsRow 0 84 2 ov es.length (cs.set (q * 2 + 0) (.int .i64 m))) (k : Kp (fun b => ov.ownBlock = some b) w w') : Eff w0 w' ov (es.set q (m, (es.getD q (0, [])).2)) := by
  have hcl : cs.length = es.length * 2 := hc.1.1
  refine ⟨Below.at_ h.bel k (fun i hi => h.ge i hi), h.ge, _, by rw [List.length_set]; exact hown, fun i hi => ?_⟩
  rw [List.length_set] at hi
  by_cases e : q = i
  · subst e
    rw [lgetD_set_eq hq, Nat.add_zero, lgetD_set_eq (by omega), lgetD_set_ne (by omega)]
    exact ⟨rfl, (hc.2 q hi).2.kp k (fun j hj => .inr hj)⟩
  · rw [lgetD_set_ne e, lgetD_set_ne (by omega), lgetD_set_ne (by omega)]
    exact ⟨(hc.2 i hi).1, (hc.2 i hi).2.kp k (fun j hj => .inr hj)⟩
theorem Eff.setL {w0 w w' : World} {ov lv : Value} {es : List Ef} {cs : List Value} {q : Nat} {xs : List Int} (h : Eff w0 w ov es) (hc : EffC w0 w ov cs es) (hq : q < es.length)
    (hown : w'.ownsRow 0 84 2 ov es.length (cs.set (q * 2 + 1) lv)) (k : Kp (fun b => ov.ownBlock = some b) w w') (hl : Lf w0 w ov lv xs) : Eff w0 w' ov (es.set q ((es.getD q (0, [])).1, xs)) := by
  have hcl : cs.length = es.length * 2 := hc.1.1
  refine ⟨Below.at_ h.bel k (fun i hi => h.ge i hi), h.ge, _, by rw [List.length_set]; exact hown, fun i hi => ?_⟩
  rw [List.length_set] at hi
  by_cases e : q = i
  · subst e
    rw [lgetD_set_eq hq, lgetD_set_eq (by omega), lgetD_set_ne (by omega)]
    exact ⟨(hc.2 q hi).1, hl.kp k (fun j hj => .inr hj)⟩
  · rw [lgetD_set_ne e, lgetD_set_ne (by omega), lgetD_set_ne (by omega)]
    exact ⟨(hc.2 i hi).1, (hc.2 i hi).2.kp k (fun j hj => .inr hj)⟩
theorem Lf.oneCell {w0 w : World} {ov lv : Value} {xs : List Int} (h : Lf w0 w ov lv xs) : lv.oneCell' = true := by
  obtain ⟨A, c, rfl⟩ := Sl.sl h.sl
  rfl
/-- What the nodes from m on hold. -/
structure NInvE (l : List Nd) (dep : List Int) (mx : Bool) (lf : Int → Int) (m : Nat) (es : List Ef) : Prop where
  len : es.length = l.length
  eq : ∀ j : Nat, m ≤ j → j < l.length → es.getD j (0, []) = NE l dep mx lf es j
  good : ∀ j : Nat, m ≤ j → j < l.length → GoodE l j (es.getD j (0, [])).2
  bd : ∀ j : Nat, m ≤ j → j < l.length → 0 ≤ (es.getD j (0, [])).1 ∧ (es.getD j (0, [])).1 ≤ far
  zero : ∀ j : Nat, j < m → es.getD j (0, []) = (0, [])
theorem NInvE.kids {l : List Nd} {dep : List Int} {mx : Bool} {lf : Int → Int} {m : Nat} {es : List Ef} (h : NInvE l dep mx lf m es) (hT : TF l dep) {q : Nat} (hq : q < l.length) (hm : m ≤ q + 1) : (∀ c ∈ kid l q, GoodE l c (ed es c).2) ∧ ∀ c ∈ kid l q, 0 ≤ (ed es c).1 ∧ (ed es c).1 ≤ far := by
  refine ⟨fun c hc => ?_, fun c hc => ?_⟩
  · obtain ⟨h1, h2⟩ := Go.Proofs.Ytdiljpnfochndaa.HP.mem_kid hT hq hc
    have := h.good c.toNat (by omega) (by omega)
    rw [show ((c.toNat : Nat) : Int) = c by omega] at this
    exact this
  · obtain ⟨h1, h2⟩ := Go.Proofs.Ytdiljpnfochndaa.HP.mem_kid hT hq hc
    exact h.bd c.toNat (by omega) (by omega)
theorem NInvE.set {l : List Nd} {dep : List Int} {mx : Bool} {lf : Int → Int} {q : Nat} {es es' : List Ef} {x : Ef} (h : NInvE l dep mx lf (q + 1) es) (hT : TF l dep) (hq : q < l.length) (hlf : leafB l q = true → 0 ≤ lf q ∧ lf q ≤ far) (hx : x = NE l dep mx lf es q) (he : es' = es.set q x) : NInvE l dep mx lf q es' := by
  subst he
  obtain ⟨hk1, hk2⟩ := h.kids hT hq (Nat.le_refl _)
  have hlen := h.len
  have hc : ∀ j : Nat, q ≤ j → j < l.length → NE l dep mx lf (es.set q x) j = NE l dep mx lf es j := fun j h1 h2 => Go.Proofs.Ytdiljpnfochndaa.HP.NE_congr hT h2 fun i hi hil => lgetD_set_ne (by omega)
  refine ⟨by simpa using hlen, ?_, ?_, ?_, ?_⟩
  · intro j h1 h2
    rw [hc j h1 h2]
    by_cases e : q = j
    · subst e; rw [lgetD_set_eq (by omega)]; exact hx
    · rw [lgetD_set_ne e]; exact h.eq j (by omega) h2
  · intro j h1 h2
    by_cases e : q = j
    · subst e; rw [lgetD_set_eq (by omega), hx]; exact Go.Proofs.Ytdiljpnfochndaa.HP.NE_good hT hq hk1
    · rw [lgetD_set_ne e]; exact h.good j (by omega) h2
  · intro j h1 h2
    by_cases e : q = j
    · subst e; rw [lgetD_set_eq (by omega), hx]; exact Go.Proofs.Ytdiljpnfochndaa.HP.NE_bd hlf hk2
    · rw [lgetD_set_ne e]; exact h.bd j (by omega) h2
  · intro j h1
    rw [lgetD_set_ne (by omega)]
    exact h.zero j (by omega)
theorem Eff.frame {w0 w w' : World} {ov : Value} {es : List Ef} {b t : Nat} {cs : Array Value} (h : Eff w0 w ov es) (hb : Blk w b cs t) (hlt : b < w0.heap.size) (k : Kp (fun b => ov.ownBlock = some b) w w') : Blk w' b cs t := hb.kp k (fun e => by have := h.ge b e; omega)
theorem mk2 {α : Type} (z0 z1 : α) (n i : Nat) (h : i < n * 2) : True := trivial
end Go.Proofs.Ytdiljpnfochndaa
namespace Go.Proofs.Ytdiljpnfochndaa
open Go Go.RowKit Go.Proofs.Ytdiljpnfochndaa.VW
open Go.Proofs.Ytdiljpnfochndaa.HP (Nd kid wor leafB rd evB TF far Ef ed pickF joinF NE NeedP GoodE)
attribute [local irreducible] W Ops
theorem join_bd {es : List Ef} : ∀ (cs : List Int), (∀ c ∈ cs, 0 ≤ (ed es c).1 ∧ (ed es c).1 ≤ far) → ∀ a : Ef, 0 ≤ a.1 ∧ a.1 ≤ far → 0 ≤ (cs.foldl (joinF es) a).1 ∧ (cs.foldl (joinF es) a).1 ≤ far := by
  intro cs
  induction cs with
  | nil => intro _ a ha; exact ha
  | cons c r ih =>
    intro hc a ha
    refine ih (fun c h => hc c (by simp [h])) _ ?_
    have := hc c (by simp)
    simp only [joinF]
    omega
theorem own_cell {w : World} {g cap e sz m : Nat} {cs : List Value} (hown : w.ownsRow 0 e sz (.slice (some ⟨g, 0, none⟩) m cap) m cs) {a b : Nat} (h : a + b < m * sz) (hm : 0 < m) : w.cell? (((⟨g, 0, none⟩ : Addr).add a).add b) = some (cs.getD (a + b) undef) := by
  obtain ⟨g', cap', he, hc⟩ := own_at hown hm
  simp only [Value.slice.injEq, Option.some.injEq, Addr.mk.injEq, and_true, true_and] at he
  obtain ⟨rfl, rfl⟩ := he
  rw [add_lit, add_lit, Nat.zero_add]
  exact hc _ h
theorem Lf.new {w0 w w' : World} {ov v : Value} {ys : List Int} (h : FInv w w' v ys) (hw : w0.heap.size ≤ w.heap.size) (ho : ∀ k, ov.ownBlock = some k → k < w.heap.size) : Lf w0 w' ov v ys :=
  ⟨h.own, fun k hk => ⟨Nat.le_trans hw (h.ge k hk), fun e => by have := ho k e; have := h.ge k hk; omega⟩⟩
set_option maxRecDepth 100000 in
theorem need_c {w : World} {g : Nat} {l : List Nd} {dep : List Int} {fv : Value} {lf : Int → Int} {mx : Bool} (hG : Game w g l dep) (hT : TF l dep) (hf : Clo w fv lf (fun i => 0 ≤ i ∧ i < l.length ∧ leafB l i = true))
    (hlf : ∀ i : Nat, leafB l i = true → 0 ≤ lf i ∧ lf i ≤ far) :
    Calls Try.prog 71 #[.pointer (some ⟨g, 0, none⟩), .bool mx, fv] w (Ret fun r w' => Below w.heap.size w w' ∧ ∃ es lv, NeedP l dep mx lf es ∧ GoodE l 0 (es.getD 0 (0, [])).2 ∧ r = .agg #[.int .i64 (es.getD 0 (0, [])).1, lv] ∧ FInv w w' lv (es.getD 0 (0, [])).2) := by
  obtain ⟨tv, dv, hB, hTr, hD⟩ := hG.out
  obtain ⟨At, ct, rfl⟩ := hTr.sl
  obtain ⟨f, first, cap, rfl, hfm, hfc⟩ := hf.out
  have hn := hT.n60
  have hn1 := hT.n1
  refine calls_W (vs := [_, _, _]) Try.func71 rfl (by kernel_rfl) rfl ?_
  refine W.seq (W.region (Ops.alloc rfl rfl rfl rfl (fun w1 rb hM => ?_)))
  have hBw1 := hB.kp hM.kp (fun e => e)
  have hb01 : Below w.heap.size w w1 := hM.kp.below (Nat.le_refl _) (fun _ _ e => e)
  have hrb1 : Blk w1 rb #[.int .i64 0, .slice none 0 0] 84 := hM.at_
  have hrbe := hM.r_eq
  have hM1 := hM.size
  (repeat (first | with_reducible refine W.seq ?_ | with_reducible refine Ops.nil ?_ | with_reducible refine W.region ?_ | refine z_p (kk := ?_) | refine z_a (kk := ?_) | refine z_y (kk := ?_) | refine z_n (kk := ?_) | refine z_u (kk := ?_) | with_reducible refine W.skip ?_ | with_reducible refine W.endb ?_ | with_reducible refine W.block ?_ | refine W.exit rfl ?_ | refine z_l (kk := ?_) | refine z_f (kk := ?_) | refine z_M (kk := ?_) | refine z_m (kk := ?_) | refine z_e (kk := ?_) | refine z_E (kk := ?_) | refine z_d (kk := ?_)))
  refine Ops.mkS rfl rfl rfl rfl rfl rfl rfl rfl rfl (by omega) (by simp; omega) (fun w2 dr hdr k2 hdl hown => ?_)
  simp only [Int.toNat_natCast] at hown ⊢
  have hgz : ∀ i, i < l.length → (madeCells (Value.agg #[.int .i64 0, .slice none 0 0]).cells (l.length * 2)).toList.getD (i * 2) undef = .int .i64 0 ∧ (madeCells (Value.agg #[.int .i64 0, .slice none 0 0]).cells (l.length * 2)).toList.getD (i * 2 + 1) undef = .slice none 0 0 := by
    intro i hi
    have h0 : i * 2 < l.length * 2 := by omega
    have h1 : i * 2 + 1 < l.length * 2 := by omega
    simp [madeCells, List.getD_eq_getElem?_getD, Value.cells, h0, h1, show (i * 2) % 2 = 0 by omega, show (i * 2 + 1) % 2 = 1 by omega]
  have hE0 : Eff w1 w2 (.slice (some ⟨dr, 0, none⟩) l.length l.length) (List.replicate l.length (0, [])) := by
    refine ⟨k2.below (Nat.le_refl _) (fun _ _ e => e), fun k hk => ?_, _, by simpa using hown, fun i hi => ?_⟩
    · simp [Value.ownBlock] at hk; omega
    · rw [List.length_replicate] at hi
      have hz : (List.replicate l.length ((0, []) : Ef)).getD i (0, []) = (0, []) := by rw [List.getD_eq_getElem?_getD, List.getElem?_replicate]; split <;> rfl
      rw [hz]
      refine ⟨(hgz i hi).1, ?_⟩
      have e2 := (hgz i hi).2
      exact (congrArg (fun v => Lf w1 w2 (.slice (some ⟨dr, 0, none⟩) l.length l.length) v []) e2).mpr (Lf.nil _ _ _)
  have hrb2 := hrb1.kp k2 (fun e => e)
  have hN0 : NInvE l dep mx lf l.length (List.replicate l.length (0, [])) := by
    refine ⟨by simp, fun j h1 h2 => by omega, fun j h1 h2 => by omega, fun j h1 h2 => by omega, fun j _ => ?_⟩
    rw [List.getD_eq_getElem?_getD, List.getElem?_replicate]; split <;> rfl
  have hB2 := hBw1.kp k2 (fun e => e)
  (repeat (first | with_reducible refine W.seq ?_ | with_reducible refine Ops.nil ?_ | with_reducible refine W.region ?_ | refine z_p (kk := ?_) | refine z_a (kk := ?_) | refine z_y (kk := ?_) | refine z_n (kk := ?_) | refine z_u (kk := ?_) | with_reducible refine W.skip ?_ | with_reducible refine W.endb ?_ | with_reducible refine W.block ?_ | refine W.exit rfl ?_ | refine z_l (kk := ?_) | refine z_f (kk := ?_) | refine z_M (kk := ?_) | refine z_m (kk := ?_) | refine z_e (kk := ?_) | refine z_E (kk := ?_) | refine z_d (kk := ?_)))
  clear hgz hown
  refine W.loop (fun m ρ w3 => ∃ (es : List Ef), m ≤ l.length ∧ ρ = [(0, .pointer (some ⟨g, 0, none⟩)), (1, .bool mx), (2, .func (.func f) first.toArray cap.toArray), (6, .pointer (some ⟨rb, 0, none⟩)), (7, .slice (some ⟨dr, 0, none⟩) l.length l.length), (8, .int .i64 ((m : Int) - 1))] ∧
      Eff w1 w3 (.slice (some ⟨dr, 0, none⟩) l.length l.length) es ∧ NInvE l dep mx lf m es ∧ Blk w3 rb #[.int .i64 0, .slice none 0 0] 84)
    ⟨l.length, _, ⟨_, Nat.le_refl _, rfl, hE0, hN0, hrb2⟩, (by repeat (first | exact trivial | refine And.intro rfl ?_))⟩ ?_
  clear hE0 hN0 hrb2 hB2 k2
  rintro m ρ w3 ⟨es, hm, rfl, hE, hN, hrb⟩
  have hb3 : Below w.heap.size w w3 := hb01.trans (hE.bel.mono hb01.size)
  have hG3 := hG.below hb3
  obtain ⟨tv3, dv3, hB3, hTr3, hD3⟩ := hG3.out
  have hel := hN.len
  (repeat (first | with_reducible refine W.seq ?_ | with_reducible refine Ops.nil ?_ | with_reducible refine W.region ?_ | refine z_p (kk := ?_) | refine z_a (kk := ?_) | refine z_y (kk := ?_) | refine z_n (kk := ?_) | refine z_u (kk := ?_) | with_reducible refine W.skip ?_ | with_reducible refine W.endb ?_ | with_reducible refine W.block ?_ | refine W.exit rfl ?_ | refine z_l (kk := ?_) | refine z_f (kk := ?_) | refine z_M (kk := ?_) | refine z_m (kk := ?_) | refine z_e (kk := ?_) | refine z_E (kk := ?_) | refine z_d (kk := ?_)))
  refine W.cond rfl (fun hc => ?_) (fun hc => ?_)
  · obtain ⟨q, rfl⟩ : ∃ q, m = q + 1 := ⟨m - 1, by simp at hc; omega⟩
    have e1 : ((q + 1 : Nat) : Int) - 1 = q := by omega
    rw [e1]
    have hql : q < l.length := by omega
    obtain ⟨hkg, hkb⟩ := hN.kids hT hql (Nat.le_refl _)
    (repeat (first | with_reducible refine W.seq ?_ | with_reducible refine Ops.nil ?_ | with_reducible refine W.region ?_ | refine z_p (kk := ?_) | refine z_a (kk := ?_) | refine z_y (kk := ?_) | refine z_n (kk := ?_) | refine z_u (kk := ?_) | with_reducible refine W.skip ?_ | with_reducible refine W.endb ?_ | with_reducible refine W.block ?_ | refine W.exit rfl ?_ | refine z_l (kk := ?_) | refine z_f (kk := ?_) | refine z_M (kk := ?_) | refine z_m (kk := ?_) | refine z_e (kk := ?_) | refine z_E (kk := ?_) | refine z_d (kk := ?_)))
    refine Ops.callS rfl rfl rfl rfl rfl (isLeaf_c hG3 q (by omega) (by omega)) ?_
    (repeat (first | with_reducible refine W.seq ?_ | with_reducible refine Ops.nil ?_ | with_reducible refine W.region ?_ | refine z_p (kk := ?_) | refine z_a (kk := ?_) | refine z_y (kk := ?_) | refine z_n (kk := ?_) | refine z_u (kk := ?_) | with_reducible refine W.skip ?_ | with_reducible refine W.endb ?_ | with_reducible refine W.block ?_ | refine W.exit rfl ?_ | refine z_l (kk := ?_) | refine z_f (kk := ?_) | refine z_M (kk := ?_) | refine z_m (kk := ?_) | refine z_e (kk := ?_) | refine z_E (kk := ?_) | refine z_d (kk := ?_)))
    refine W.cond rfl (fun hlf1 => ?_) (fun hlf1 => ?_)
    · (repeat (first | with_reducible refine W.seq ?_ | with_reducible refine Ops.nil ?_ | with_reducible refine W.region ?_ | refine z_p (kk := ?_) | refine z_a (kk := ?_) | refine z_y (kk := ?_) | refine z_n (kk := ?_) | refine z_u (kk := ?_) | with_reducible refine W.skip ?_ | with_reducible refine W.endb ?_ | with_reducible refine W.block ?_ | refine W.exit rfl ?_ | refine z_l (kk := ?_) | refine z_f (kk := ?_) | refine z_M (kk := ?_) | refine z_m (kk := ?_) | refine z_e (kk := ?_) | refine z_E (kk := ?_) | refine z_d (kk := ?_)))
      refine Ops.call rfl rfl rfl rfl hfm (hfc q w3 hb3 ⟨by omega, by omega, hlf1⟩) (fun v w4 hR => ?_)
      obtain ⟨rfl, hb4⟩ := hR
      have k4 := Kp.of_below (S := fun _ => False) hb4
      have hE4 := hE.kp k4 (fun _ e => e.elim)
      have hrb4 := hrb.kp k4 (fun e => e)
      (repeat (first | with_reducible refine W.seq ?_ | with_reducible refine Ops.nil ?_ | with_reducible refine W.region ?_ | refine z_p (kk := ?_) | refine z_a (kk := ?_) | refine z_y (kk := ?_) | refine z_n (kk := ?_) | refine z_u (kk := ?_) | with_reducible refine W.skip ?_ | with_reducible refine W.endb ?_ | with_reducible refine W.block ?_ | refine W.exit rfl ?_ | refine z_l (kk := ?_) | refine z_f (kk := ?_) | refine z_M (kk := ?_) | refine z_m (kk := ?_) | refine z_e (kk := ?_) | refine z_E (kk := ?_) | refine z_d (kk := ?_)))
      refine Ops.bs1 rfl rfl rfl rfl rfl rfl rfl rfl rfl (fun w5 r5 hM5 => ?_)
      have hE5 := hE4.kp hM5.kp (fun _ e => e.elim)
      have hrb5 := hrb4.kp hM5.kp (fun e => e)
      have hone := own_one hM5
      have hdlt : dr < w4.heap.size := by obtain ⟨cs, hcs, _⟩ := hE4.out; exact (hcs.lt dr rfl).2
      have hL5 : Lf w1 w5 (.slice (some ⟨dr, 0, none⟩) l.length l.length) (.slice (some ⟨r5, 0, none⟩) 1 1) [(q : Int)] := by
        refine ⟨hone, fun k hk => ?_⟩
        have := hM5.r_eq
        have := hE4.bel.size
        simp [Value.ownBlock] at hk ⊢
        omega
      refine Ops.bld2 rfl rfl rfl rfl rfl rfl rfl rfl rfl ?_
      obtain ⟨cs, hcs⟩ := hE5.out
      refine Ops.wrOA rfl rfl rfl rfl rfl rfl rfl rfl rfl rfl rfl rfl (by simp) rfl rfl hcs.1 (by omega) (by omega) (fun w6 p hown6 k6 => ?_)
      have hE6 := hE5.setA hcs (by omega) hown6 k6 hL5
      have hrb6 := hE5.frame hrb5 (by omega) k6
      have hN6 := hN.set hT hql (hlf q) (x := (lf q, [(q : Int)])) (by simp [NE, hlf1]) rfl
      (repeat (first | with_reducible refine W.seq ?_ | with_reducible refine Ops.nil ?_ | with_reducible refine W.region ?_ | refine z_p (kk := ?_) | refine z_a (kk := ?_) | refine z_y (kk := ?_) | refine z_n (kk := ?_) | refine z_u (kk := ?_) | with_reducible refine W.skip ?_ | with_reducible refine W.endb ?_ | with_reducible refine W.block ?_ | refine W.exit rfl ?_ | refine z_l (kk := ?_) | refine z_f (kk := ?_) | refine z_M (kk := ?_) | refine z_m (kk := ?_) | refine z_e (kk := ?_) | refine z_E (kk := ?_) | refine z_d (kk := ?_)))
      exact W.endl ⟨q, _, ⟨⟨_, by omega, rfl, hE6, hN6, hrb6⟩, by omega⟩, (by repeat (first | exact trivial | refine And.intro rfl ?_))⟩
    · have hkl := hT.klen q hql
      (repeat (first | with_reducible refine W.seq ?_ | with_reducible refine Ops.nil ?_ | with_reducible refine W.region ?_ | refine z_p (kk := ?_) | refine z_a (kk := ?_) | refine z_y (kk := ?_) | refine z_n (kk := ?_) | refine z_u (kk := ?_) | with_reducible refine W.skip ?_ | with_reducible refine W.endb ?_ | with_reducible refine W.block ?_ | refine W.exit rfl ?_ | refine z_l (kk := ?_) | refine z_f (kk := ?_) | refine z_M (kk := ?_) | refine z_m (kk := ?_) | refine z_e (kk := ?_) | refine z_E (kk := ?_) | refine z_d (kk := ?_)))
      refine Ops.callS rfl rfl rfl rfl rfl (atMax_c hG3 q (by omega) (by have := hT.len; omega)) ?_
      (repeat (first | with_reducible refine W.seq ?_ | with_reducible refine Ops.nil ?_ | with_reducible refine W.region ?_ | refine z_p (kk := ?_) | refine z_a (kk := ?_) | refine z_y (kk := ?_) | refine z_n (kk := ?_) | refine z_u (kk := ?_) | with_reducible refine W.skip ?_ | with_reducible refine W.endb ?_ | with_reducible refine W.block ?_ | refine W.exit rfl ?_ | refine z_l (kk := ?_) | refine z_f (kk := ?_) | refine z_M (kk := ?_) | refine z_m (kk := ?_) | refine z_e (kk := ?_) | refine z_E (kk := ?_) | refine z_d (kk := ?_)))
      have hrbe' : rb < w1.heap.size := by omega
      have hnl : ¬ leafB l q = true := by simp [hlf1]
      refine W.cond rfl (fun hev => ?_) (fun hev => ?_)
      · -- one child is enough
        obtain ⟨cs, hcs⟩ := hE.out
        (repeat (first | with_reducible refine W.seq ?_ | with_reducible refine Ops.nil ?_ | with_reducible refine W.region ?_ | refine z_p (kk := ?_) | refine z_a (kk := ?_) | refine z_y (kk := ?_) | refine z_n (kk := ?_) | refine z_u (kk := ?_) | with_reducible refine W.skip ?_ | with_reducible refine W.endb ?_ | with_reducible refine W.block ?_ | refine W.exit rfl ?_ | refine z_l (kk := ?_) | refine z_f (kk := ?_) | refine z_M (kk := ?_) | refine z_m (kk := ?_) | refine z_e (kk := ?_) | refine z_E (kk := ?_) | refine z_d (kk := ?_)))
        refine Ops.wrOF rfl rfl rfl rfl rfl rfl rfl rfl rfl rfl rfl rfl rfl rfl rfl rfl rfl (by simp) (by simp) rfl hcs.1 (by omega) (by omega) (fun w4 p q' hown4 k4 => ?_)
        have hE4 := hE.setM hcs (by omega) hown4 k4
        have hrb4 := hE.frame hrb hrbe' k4
        simp only [Int.toNat_natCast] at hE4
        rw [hN.zero q (by omega)] at hE4
        have hb4 : Below w.heap.size w w4 := hb01.trans (hE4.bel.mono hb01.size)
        have hB4 := hB.kp (Kp.of_below (S := fun _ => False) hb4) (fun e => e)
        (repeat (first | with_reducible refine W.seq ?_ | with_reducible refine Ops.nil ?_ | with_reducible refine W.region ?_ | refine z_p (kk := ?_) | refine z_a (kk := ?_) | refine z_y (kk := ?_) | refine z_n (kk := ?_) | refine z_u (kk := ?_) | with_reducible refine W.skip ?_ | with_reducible refine W.endb ?_ | with_reducible refine W.block ?_ | refine W.exit rfl ?_ | refine z_l (kk := ?_) | refine z_f (kk := ?_) | refine z_M (kk := ?_) | refine z_m (kk := ?_) | refine z_e (kk := ?_) | refine z_E (kk := ?_) | refine z_d (kk := ?_)))
        refine Ops.rdK rfl rfl rfl rfl rfl rfl rfl rfl rfl rfl rfl rfl rfl rfl rfl hTr hb4 (by omega) (by omega) (fun cv p q' hcv => ?_)
        obtain ⟨Ac, cc, rfl⟩ := Sl.sl hcv
        (repeat (first | with_reducible refine W.seq ?_ | with_reducible refine Ops.nil ?_ | with_reducible refine W.region ?_ | refine z_p (kk := ?_) | refine z_a (kk := ?_) | refine z_y (kk := ?_) | refine z_n (kk := ?_) | refine z_u (kk := ?_) | with_reducible refine W.skip ?_ | with_reducible refine W.endb ?_ | with_reducible refine W.block ?_ | refine W.exit rfl ?_ | refine z_l (kk := ?_) | refine z_f (kk := ?_) | refine z_M (kk := ?_) | refine z_m (kk := ?_) | refine z_e (kk := ?_) | refine z_E (kk := ?_) | refine z_d (kk := ?_)))
        refine W.loop (fun m ρ w5 => ∃ (j : Nat), m = (kid l q).length - j ∧ j ≤ (kid l q).length ∧ ρ = [(0, .pointer (some ⟨g, 0, none⟩)), (1, .bool mx), (2, .func (.func f) first.toArray cap.toArray), (6, .pointer (some ⟨rb, 0, none⟩)), (7, .slice (some ⟨dr, 0, none⟩) l.length l.length), (8, .int .i64 q), (105, .slice Ac (kid l q).length cc), (106, .int .i64 (kid l q).length), (107, .int .i64 j)] ∧
            Eff w1 w5 (.slice (some ⟨dr, 0, none⟩) l.length l.length) (es.set q (((kid l q).take j).foldl (pickF es) (far, []))) ∧ Blk w5 rb #[.int .i64 0, .slice none 0 0] 84)
          ⟨_, _, ⟨0, rfl, Nat.zero_le _, rfl, hE4, hrb4⟩, (by repeat (first | exact trivial | refine And.intro rfl ?_))⟩ ?_
        rintro m ρ w5 ⟨j, rfl, hj, rfl, hE5, hrb5⟩
        (repeat (first | with_reducible refine W.seq ?_ | with_reducible refine Ops.nil ?_ | with_reducible refine W.region ?_ | refine z_p (kk := ?_) | refine z_a (kk := ?_) | refine z_y (kk := ?_) | refine z_n (kk := ?_) | refine z_u (kk := ?_) | with_reducible refine W.skip ?_ | with_reducible refine W.endb ?_ | with_reducible refine W.block ?_ | refine W.exit rfl ?_ | refine z_l (kk := ?_) | refine z_f (kk := ?_) | refine z_M (kk := ?_) | refine z_m (kk := ?_) | refine z_e (kk := ?_) | refine z_E (kk := ?_) | refine z_d (kk := ?_)))
        refine W.cond rfl (fun hc => ?_) (fun hc => ?_)
        · have hlt : j < (kid l q).length := by simp at hc; omega
          have hkin := hT.kin q j hql hlt
          simp only [Go.Proofs.Ytdiljpnfochndaa.HP.k_] at hkin
          have htk : ((kid l q).take (j + 1)).foldl (pickF es) (far, []) = pickF es (((kid l q).take j).foldl (pickF es) (far, [])) ((kid l q).getD j 0) := by
            rw [Go.Proofs.Ytdiljpnfochndaa.HP.take_snoc _ _ hlt, List.foldl_append]; rfl
          (repeat (first | with_reducible refine W.seq ?_ | with_reducible refine Ops.nil ?_ | with_reducible refine W.region ?_ | refine z_p (kk := ?_) | refine z_a (kk := ?_) | refine z_y (kk := ?_) | refine z_n (kk := ?_) | refine z_u (kk := ?_) | with_reducible refine W.skip ?_ | with_reducible refine W.endb ?_ | with_reducible refine W.block ?_ | refine W.exit rfl ?_ | refine z_l (kk := ?_) | refine z_f (kk := ?_) | refine z_M (kk := ?_) | refine z_m (kk := ?_) | refine z_e (kk := ?_) | refine z_E (kk := ?_) | refine z_d (kk := ?_)))
          refine Ops.rdS (enc := Value.int .i64) (z := (0 : Int)) rfl rfl rfl rfl rfl rfl rfl rfl rfl rfl rfl (Sl.below hcv (hb01.trans (hE5.bel.mono hb01.size))) (by omega) (by omega) (fun p => ?_)
          simp only [Int.toNat_natCast]
          generalize (kid l q).getD j 0 = cj at *
          generalize ((kid l q).take j).foldl (pickF es) (far, []) = acc at *
          have hsl : (es.set q acc).length = es.length := List.length_set
          have hec : (es.set q acc).getD cj.toNat (0, []) = ed es cj := lgetD_set_ne (by omega)
          have heq : (es.set q acc).getD q (0, []) = acc := lgetD_set_eq (by omega)
          (repeat (first | with_reducible refine W.seq ?_ | with_reducible refine Ops.nil ?_ | with_reducible refine W.region ?_ | refine z_p (kk := ?_) | refine z_a (kk := ?_) | refine z_y (kk := ?_) | refine z_n (kk := ?_) | refine z_u (kk := ?_) | with_reducible refine W.skip ?_ | with_reducible refine W.endb ?_ | with_reducible refine W.block ?_ | refine W.exit rfl ?_ | refine z_l (kk := ?_) | refine z_f (kk := ?_) | refine z_M (kk := ?_) | refine z_m (kk := ?_) | refine z_e (kk := ?_) | refine z_E (kk := ?_) | refine z_d (kk := ?_)))
          refine W.still' rfl (by kernel_rfl) (fun w6 k6 _ => ?_)
          have hE6 := hE5.kp k6 (fun _ e => e.elim)
          have hrb6 := hrb5.kp k6 (fun e => e)
          obtain ⟨cs6, hcs6⟩ := hE6.out
          have hv1 := (hcs6.2 cj.toNat (by omega)).1
          have hv2 := (hcs6.2 q (by omega)).1
          rw [hec] at hv1
          rw [heq] at hv2
          (repeat (first | with_reducible refine W.seq ?_ | with_reducible refine Ops.nil ?_ | with_reducible refine W.region ?_ | refine z_p (kk := ?_) | refine z_a (kk := ?_) | refine z_y (kk := ?_) | refine z_n (kk := ?_) | refine z_u (kk := ?_) | with_reducible refine W.skip ?_ | with_reducible refine W.endb ?_ | with_reducible refine W.block ?_ | refine W.exit rfl ?_ | refine z_l (kk := ?_) | refine z_f (kk := ?_) | refine z_M (kk := ?_) | refine z_m (kk := ?_) | refine z_e (kk := ?_) | refine z_E (kk := ?_) | refine z_d (kk := ?_)))
          refine Ops.rdOF rfl rfl rfl rfl rfl rfl rfl rfl rfl rfl rfl rfl rfl rfl rfl rfl hcs6.1 (by omega) (by omega) (fun p q' => ?_)
          have hv1' : cs6.getD (cj.toNat * 2 + 0) undef = _ := hv1
          have hv2' : cs6.getD (q * 2 + 0) undef = _ := hv2
          rw [hv1']
          (repeat (first | with_reducible refine W.seq ?_ | with_reducible refine Ops.nil ?_ | with_reducible refine W.region ?_ | refine z_p (kk := ?_) | refine z_a (kk := ?_) | refine z_y (kk := ?_) | refine z_n (kk := ?_) | refine z_u (kk := ?_) | with_reducible refine W.skip ?_ | with_reducible refine W.endb ?_ | with_reducible refine W.block ?_ | refine W.exit rfl ?_ | refine z_l (kk := ?_) | refine z_f (kk := ?_) | refine z_M (kk := ?_) | refine z_m (kk := ?_) | refine z_e (kk := ?_) | refine z_E (kk := ?_) | refine z_d (kk := ?_)))
          refine Ops.rdOF rfl rfl rfl rfl rfl rfl rfl rfl rfl rfl rfl rfl rfl rfl rfl rfl hcs6.1 (by omega) (by omega) (fun p q' => ?_)
          simp only [Int.toNat_natCast]
          rw [hv2']
          (repeat (first | with_reducible refine W.seq ?_ | with_reducible refine Ops.nil ?_ | with_reducible refine W.region ?_ | refine z_p (kk := ?_) | refine z_a (kk := ?_) | refine z_y (kk := ?_) | refine z_n (kk := ?_) | refine z_u (kk := ?_) | with_reducible refine W.skip ?_ | with_reducible refine W.endb ?_ | with_reducible refine W.block ?_ | refine W.exit rfl ?_ | refine z_l (kk := ?_) | refine z_f (kk := ?_) | refine z_M (kk := ?_) | refine z_m (kk := ?_) | refine z_e (kk := ?_) | refine z_E (kk := ?_) | refine z_d (kk := ?_)))
          refine Ops.nilS rfl ?_
          (repeat (first | with_reducible refine W.seq ?_ | with_reducible refine Ops.nil ?_ | with_reducible refine W.region ?_ | refine z_p (kk := ?_) | refine z_a (kk := ?_) | refine z_y (kk := ?_) | refine z_n (kk := ?_) | refine z_u (kk := ?_) | with_reducible refine W.skip ?_ | with_reducible refine W.endb ?_ | with_reducible refine W.block ?_ | refine W.exit rfl ?_ | refine z_l (kk := ?_) | refine z_f (kk := ?_) | refine z_M (kk := ?_) | refine z_m (kk := ?_) | refine z_e (kk := ?_) | refine z_E (kk := ?_) | refine z_d (kk := ?_)))
          refine W.cond rfl (fun hlt2 => ?_) (fun hlt2 => ?_)
          · (repeat (first | with_reducible refine W.seq ?_ | with_reducible refine Ops.nil ?_ | with_reducible refine W.region ?_ | refine z_p (kk := ?_) | refine z_a (kk := ?_) | refine z_y (kk := ?_) | refine z_n (kk := ?_) | refine z_u (kk := ?_) | with_reducible refine W.skip ?_ | with_reducible refine W.endb ?_ | with_reducible refine W.block ?_ | refine W.exit rfl ?_ | refine z_l (kk := ?_) | refine z_f (kk := ?_) | refine z_M (kk := ?_) | refine z_m (kk := ?_) | refine z_e (kk := ?_) | refine z_E (kk := ?_) | refine z_d (kk := ?_)))
            have hL := (hcs6.2 cj.toNat (by omega)).2
            rw [hec] at hL
            refine Ops.rdOA rfl rfl rfl rfl rfl rfl rfl rfl rfl rfl rfl rfl hcs6.1 (by omega) (by omega) (fun p => ?_)
            rw [hv1]
            refine Ops.wrOA rfl rfl rfl rfl rfl rfl rfl rfl rfl rfl rfl rfl (by simp) rfl hL.oneCell hcs6.1 (by omega) (by omega) (fun w7 p hown7 k7 => ?_)
            simp only [Int.toNat_natCast] at hown7
            have hE7 := hE6.setA hcs6 (by omega) hown7 k7 hL
            rw [List.set_set] at hE7
            have hrb7 := hE6.frame hrb6 hrbe' k7
            (repeat (first | with_reducible refine W.seq ?_ | with_reducible refine Ops.nil ?_ | with_reducible refine W.region ?_ | refine z_p (kk := ?_) | refine z_a (kk := ?_) | refine z_y (kk := ?_) | refine z_n (kk := ?_) | refine z_u (kk := ?_) | with_reducible refine W.skip ?_ | with_reducible refine W.endb ?_ | with_reducible refine W.block ?_ | refine W.exit rfl ?_ | refine z_l (kk := ?_) | refine z_f (kk := ?_) | refine z_M (kk := ?_) | refine z_m (kk := ?_) | refine z_e (kk := ?_) | refine z_E (kk := ?_) | refine z_d (kk := ?_)))
            refine W.endl ⟨_, _, ⟨⟨j + 1, rfl, by omega, rfl, ?_, hrb7⟩, by omega⟩, (by repeat (first | exact trivial | refine And.intro rfl ?_))⟩
            rw [htk, pickF, if_pos (by simpa using hlt2)]
            exact hE7
          · (repeat (first | with_reducible refine W.seq ?_ | with_reducible refine Ops.nil ?_ | with_reducible refine W.region ?_ | refine z_p (kk := ?_) | refine z_a (kk := ?_) | refine z_y (kk := ?_) | refine z_n (kk := ?_) | refine z_u (kk := ?_) | with_reducible refine W.skip ?_ | with_reducible refine W.endb ?_ | with_reducible refine W.block ?_ | refine W.exit rfl ?_ | refine z_l (kk := ?_) | refine z_f (kk := ?_) | refine z_M (kk := ?_) | refine z_m (kk := ?_) | refine z_e (kk := ?_) | refine z_E (kk := ?_) | refine z_d (kk := ?_)))
            refine W.endl ⟨_, _, ⟨⟨j + 1, rfl, by omega, rfl, ?_, hrb6⟩, by omega⟩, (by repeat (first | exact trivial | refine And.intro rfl ?_))⟩
            rw [htk, pickF, if_neg (by simpa using hlt2)]
            exact hE6
        · have hlt : j = (kid l q).length := by simp at hc; omega
          subst hlt
          rw [List.take_length] at hE5
          have hN6 := hN.set hT hql (hlf q) (x := (kid l q).foldl (pickF es) (far, [])) (by rw [NE, if_neg hnl, if_pos hev]) rfl
          (repeat (first | with_reducible refine W.seq ?_ | with_reducible refine Ops.nil ?_ | with_reducible refine W.region ?_ | refine z_p (kk := ?_) | refine z_a (kk := ?_) | refine z_y (kk := ?_) | refine z_n (kk := ?_) | refine z_u (kk := ?_) | with_reducible refine W.skip ?_ | with_reducible refine W.endb ?_ | with_reducible refine W.block ?_ | refine W.exit rfl ?_ | refine z_l (kk := ?_) | refine z_f (kk := ?_) | refine z_M (kk := ?_) | refine z_m (kk := ?_) | refine z_e (kk := ?_) | refine z_E (kk := ?_) | refine z_d (kk := ?_)))
          exact W.endl ⟨q, _, ⟨⟨_, by omega, rfl, hE5, hN6, hrb5⟩, by omega⟩, (by repeat (first | exact trivial | refine And.intro rfl ?_))⟩
      · -- all the children are needed
        have hz0 : es.set q (0, []) = es := by
          rw [← hN.zero q (by omega)]
          apply List.ext_getElem (by simp)
          intro i h1 h2
          by_cases e : q = i
          · subst e; simp [List.getD_eq_getElem?_getD, h2]
          · simp [List.getElem_set_ne e]
        have hE4 : Eff w1 w3 (.slice (some ⟨dr, 0, none⟩) l.length l.length) (es.set q (0, [])) := by rw [hz0]; exact hE
        have hB4 := hB.kp (Kp.of_below (S := fun _ => False) hb3) (fun e => e)
        (repeat (first | with_reducible refine W.seq ?_ | with_reducible refine Ops.nil ?_ | with_reducible refine W.region ?_ | refine z_p (kk := ?_) | refine z_a (kk := ?_) | refine z_y (kk := ?_) | refine z_n (kk := ?_) | refine z_u (kk := ?_) | with_reducible refine W.skip ?_ | with_reducible refine W.endb ?_ | with_reducible refine W.block ?_ | refine W.exit rfl ?_ | refine z_l (kk := ?_) | refine z_f (kk := ?_) | refine z_M (kk := ?_) | refine z_m (kk := ?_) | refine z_e (kk := ?_) | refine z_E (kk := ?_) | refine z_d (kk := ?_)))
        refine Ops.rdK rfl rfl rfl rfl rfl rfl rfl rfl rfl rfl rfl rfl rfl rfl rfl hTr hb3 (by omega) (by omega) (fun cv p q' hcv => ?_)
        obtain ⟨Ac, cc, rfl⟩ := Sl.sl hcv
        (repeat (first | with_reducible refine W.seq ?_ | with_reducible refine Ops.nil ?_ | with_reducible refine W.region ?_ | refine z_p (kk := ?_) | refine z_a (kk := ?_) | refine z_y (kk := ?_) | refine z_n (kk := ?_) | refine z_u (kk := ?_) | with_reducible refine W.skip ?_ | with_reducible refine W.endb ?_ | with_reducible refine W.block ?_ | refine W.exit rfl ?_ | refine z_l (kk := ?_) | refine z_f (kk := ?_) | refine z_M (kk := ?_) | refine z_m (kk := ?_) | refine z_e (kk := ?_) | refine z_E (kk := ?_) | refine z_d (kk := ?_)))
        refine W.loop (fun m ρ w5 => ∃ (j : Nat), m = (kid l q).length - j ∧ j ≤ (kid l q).length ∧ ρ = [(0, .pointer (some ⟨g, 0, none⟩)), (1, .bool mx), (2, .func (.func f) first.toArray cap.toArray), (6, .pointer (some ⟨rb, 0, none⟩)), (7, .slice (some ⟨dr, 0, none⟩) l.length l.length), (8, .int .i64 q), (36, .slice Ac (kid l q).length cc), (37, .int .i64 (kid l q).length), (38, .int .i64 j)] ∧
            Eff w1 w5 (.slice (some ⟨dr, 0, none⟩) l.length l.length) (es.set q (((kid l q).take j).foldl (joinF es) (0, []))) ∧ Blk w5 rb #[.int .i64 0, .slice none 0 0] 84)
          ⟨_, _, ⟨0, rfl, Nat.zero_le _, rfl, hE4, hrb⟩, (by repeat (first | exact trivial | refine And.intro rfl ?_))⟩ ?_
        rintro m ρ w5 ⟨j, rfl, hj, rfl, hE5, hrb5⟩
        (repeat (first | with_reducible refine W.seq ?_ | with_reducible refine Ops.nil ?_ | with_reducible refine W.region ?_ | refine z_p (kk := ?_) | refine z_a (kk := ?_) | refine z_y (kk := ?_) | refine z_n (kk := ?_) | refine z_u (kk := ?_) | with_reducible refine W.skip ?_ | with_reducible refine W.endb ?_ | with_reducible refine W.block ?_ | refine W.exit rfl ?_ | refine z_l (kk := ?_) | refine z_f (kk := ?_) | refine z_M (kk := ?_) | refine z_m (kk := ?_) | refine z_e (kk := ?_) | refine z_E (kk := ?_) | refine z_d (kk := ?_)))
        refine W.cond rfl (fun hc => ?_) (fun hc => ?_)
        · have hlt : j < (kid l q).length := by simp at hc; omega
          have hkin := hT.kin q j hql hlt
          simp only [Go.Proofs.Ytdiljpnfochndaa.HP.k_] at hkin
          have htk : ((kid l q).take (j + 1)).foldl (joinF es) (0, []) = joinF es (((kid l q).take j).foldl (joinF es) (0, [])) ((kid l q).getD j 0) := by
            rw [Go.Proofs.Ytdiljpnfochndaa.HP.take_snoc _ _ hlt, List.foldl_append]; rfl
          have hmc : (kid l q).getD j 0 ∈ kid l q := by
            rw [List.getD_eq_getElem?_getD, List.getElem?_eq_getElem (by omega)]
            simp
          have hjb := join_bd (es := es) ((kid l q).take j) (fun c hc => hkb c (List.mem_of_mem_take hc)) (0, []) ⟨by decide, by decide⟩
          have hgl1 := (Go.Proofs.Ytdiljpnfochndaa.HP.good_join hT hql hkg (j + 1) (by omega)).1.len
          rw [htk] at hgl1
          have hcb := hkb _ hmc
          (repeat (first | with_reducible refine W.seq ?_ | with_reducible refine Ops.nil ?_ | with_reducible refine W.region ?_ | refine z_p (kk := ?_) | refine z_a (kk := ?_) | refine z_y (kk := ?_) | refine z_n (kk := ?_) | refine z_u (kk := ?_) | with_reducible refine W.skip ?_ | with_reducible refine W.endb ?_ | with_reducible refine W.block ?_ | refine W.exit rfl ?_ | refine z_l (kk := ?_) | refine z_f (kk := ?_) | refine z_M (kk := ?_) | refine z_m (kk := ?_) | refine z_e (kk := ?_) | refine z_E (kk := ?_) | refine z_d (kk := ?_)))
          refine Ops.rdS (enc := Value.int .i64) (z := (0 : Int)) rfl rfl rfl rfl rfl rfl rfl rfl rfl rfl rfl (Sl.below hcv (hb01.trans (hE5.bel.mono hb01.size))) (by omega) (by omega) (fun p => ?_)
          simp only [Int.toNat_natCast]
          generalize (kid l q).getD j 0 = cj at *
          generalize ((kid l q).take j).foldl (joinF es) (0, []) = acc at *
          have hsl : (es.set q acc).length = es.length := List.length_set
          have hec : (es.set q acc).getD cj.toNat (0, []) = ed es cj := lgetD_set_ne (by omega)
          have heq : (es.set q acc).getD q (0, []) = acc := lgetD_set_eq (by omega)
          (repeat (first | with_reducible refine W.seq ?_ | with_reducible refine Ops.nil ?_ | with_reducible refine W.region ?_ | refine z_p (kk := ?_) | refine z_a (kk := ?_) | refine z_y (kk := ?_) | refine z_n (kk := ?_) | refine z_u (kk := ?_) | with_reducible refine W.skip ?_ | with_reducible refine W.endb ?_ | with_reducible refine W.block ?_ | refine W.exit rfl ?_ | refine z_l (kk := ?_) | refine z_f (kk := ?_) | refine z_M (kk := ?_) | refine z_m (kk := ?_) | refine z_e (kk := ?_) | refine z_E (kk := ?_) | refine z_d (kk := ?_)))
          refine W.tail' 14 rfl (by kernel_rfl) (fun w6 k6 _ => ?_)
          have hE6 := hE5.kp k6 (fun _ e => e.elim)
          have hrb6 := hrb5.kp k6 (fun e => e)
          obtain ⟨cs6, hcs6⟩ := hE6.out
          have hv1 := (hcs6.2 cj.toNat (by omega)).1
          have hv2 := (hcs6.2 q (by omega)).1
          rw [hec] at hv1
          rw [heq] at hv2
          (repeat (first | with_reducible refine W.seq ?_ | with_reducible refine Ops.nil ?_ | with_reducible refine W.region ?_ | refine z_p (kk := ?_) | refine z_a (kk := ?_) | refine z_y (kk := ?_) | refine z_n (kk := ?_) | refine z_u (kk := ?_) | with_reducible refine W.skip ?_ | with_reducible refine W.endb ?_ | with_reducible refine W.block ?_ | refine W.exit rfl ?_ | refine z_l (kk := ?_) | refine z_f (kk := ?_) | refine z_M (kk := ?_) | refine z_m (kk := ?_) | refine z_e (kk := ?_) | refine z_E (kk := ?_) | refine z_d (kk := ?_)))
          refine Ops.rdOF rfl rfl rfl rfl rfl rfl rfl rfl rfl rfl rfl rfl rfl rfl rfl rfl hcs6.1 (by omega) (by omega) (fun p q' => ?_)
          have hv1' : cs6.getD (cj.toNat * 2 + 0) undef = _ := hv1
          have hv2' : cs6.getD (q * 2 + 0) undef = _ := hv2
          simp only [Int.toNat_natCast]
          rw [hv2']
          (repeat (first | with_reducible refine W.seq ?_ | with_reducible refine Ops.nil ?_ | with_reducible refine W.region ?_ | refine z_p (kk := ?_) | refine z_a (kk := ?_) | refine z_y (kk := ?_) | refine z_n (kk := ?_) | refine z_u (kk := ?_) | with_reducible refine W.skip ?_ | with_reducible refine W.endb ?_ | with_reducible refine W.block ?_ | refine W.exit rfl ?_ | refine z_l (kk := ?_) | refine z_f (kk := ?_) | refine z_M (kk := ?_) | refine z_m (kk := ?_) | refine z_e (kk := ?_) | refine z_E (kk := ?_) | refine z_d (kk := ?_)))
          refine Ops.rdOF rfl rfl rfl rfl rfl rfl rfl rfl rfl rfl rfl rfl rfl rfl rfl rfl hcs6.1 (by omega) (by omega) (fun p q' => ?_)
          rw [hv1']
          have hfar : far = 1099511627776 := rfl
          (repeat (first | with_reducible refine W.seq ?_ | with_reducible refine Ops.nil ?_ | with_reducible refine W.region ?_ | refine z_p (kk := ?_) | refine z_a (kk := ?_) | refine z_y (kk := ?_) | refine z_n (kk := ?_) | refine z_u (kk := ?_) | with_reducible refine W.skip ?_ | with_reducible refine W.endb ?_ | with_reducible refine W.block ?_ | refine W.exit rfl ?_ | refine z_l (kk := ?_) | refine z_f (kk := ?_) | refine z_M (kk := ?_) | refine z_m (kk := ?_) | refine z_e (kk := ?_) | refine z_E (kk := ?_) | refine z_d (kk := ?_)))
          refine Ops.nilS rfl ?_
          refine Ops.wrOF rfl rfl rfl rfl rfl rfl rfl rfl rfl rfl rfl rfl rfl rfl rfl rfl rfl (by simp) (by simp) rfl hcs6.1 (by omega) (by omega) (fun w7 p q' hown7 k7 => ?_)
          have hE7 := hE6.setM hcs6 (by omega) hown7 k7
          have hrb7 := hE6.frame hrb6 hrbe' k7
          simp only [Int.toNat_natCast] at hE7
          rw [heq, List.set_set] at hE7
          have hsl7 : (es.set q (Min.min 1099511627776 (acc.1 + (ed es cj).1), acc.2)).length = es.length := List.length_set
          have hec7 : (es.set q (Min.min 1099511627776 (acc.1 + (ed es cj).1), acc.2)).getD cj.toNat (0, []) = ed es cj := lgetD_set_ne (by omega)
          have heq7 : (es.set q (Min.min 1099511627776 (acc.1 + (ed es cj).1), acc.2)).getD q (0, []) = (Min.min 1099511627776 (acc.1 + (ed es cj).1), acc.2) := lgetD_set_eq (by omega)
          obtain ⟨cs7, hcs7⟩ := hE7.out
          have h71 := hcs7.1
          rw [hsl7, hel] at h71
          have hlq : q * 2 + 1 < l.length * 2 := by omega
          have hlc : cj.toNat * 2 + 1 < l.length * 2 := by omega
          have hl0 : 0 < l.length := by omega
          (repeat (first | with_reducible refine W.seq ?_ | with_reducible refine Ops.nil ?_ | with_reducible refine W.region ?_ | refine z_p (kk := ?_) | refine z_a (kk := ?_) | refine z_y (kk := ?_) | refine z_n (kk := ?_) | refine z_u (kk := ?_) | with_reducible refine W.skip ?_ | with_reducible refine W.endb ?_ | with_reducible refine W.block ?_ | refine W.exit rfl ?_ | refine z_l (kk := ?_) | refine z_f (kk := ?_) | refine z_M (kk := ?_) | refine z_m (kk := ?_) | refine z_e (kk := ?_) | refine z_E (kk := ?_) | refine z_d (kk := ?_)))
          refine W.ord 16 (fun w' => w'.ownsRow 0 84 2 (.slice (some ⟨dr, 0, none⟩) l.length l.length) l.length cs7) [(0,1),(1,1),(2,1),(3,1),(4,1),(5,1),(6,2),(7,1),(8,1),(9,1),(10,1),(11,2),(12,0),(13,0),(14,0),(15,0),(16,0)] rfl (by kernel_rfl) rfl (by kernel_rfl) (fun w8 k8 _ => ⟨own_kp h71 k8 (fun _ _ e => e.elim), ?_⟩)
          have hE8 := hE7.kp k8 (fun _ e => e.elim)
          have hrb8 := hrb7.kp k8 (fun e => e)
          have h81 := own_kp h71 k8 (fun _ _ e => e.elim)
          have hcs8 : EffC w1 w8 _ cs7 _ := ⟨own_kp hcs7.1 k8 (fun _ _ e => e.elim), fun i hi => ⟨(hcs7.2 i hi).1, (hcs7.2 i hi).2.kp k8 (fun _ e => e.elim)⟩⟩
          refine Ord.take rfl rfl rfl (fun _ _ _ h => h) (fun _ => EV.pu rfl) ?_
          refine Ord.take rfl rfl rfl (fun _ _ _ h => h) (fun _ => EV.pu rfl) ?_
          refine Ord.take rfl rfl rfl (fun _ _ _ h => h) (fun _ => EV.pu rfl) ?_
          refine Ord.take rfl rfl rfl (fun _ _ _ h => h) (fun _ => EV.pu rfl) ?_
          refine Ord.take rfl rfl rfl (fun _ _ _ h => h) (fun _ => EV.idx rfl rfl rfl rfl rfl (by omega) (by omega)) ?_
          refine Ord.take rfl rfl rfl (fun _ _ _ h => h) (fun _ => EV.fld rfl rfl rfl) ?_
          refine Ord.read rfl rfl rfl (fun _ _ _ h => h) (fun w' hF => EV.ld rfl rfl rfl (own_cell hF hlq hl0)) ?_
          refine Ord.take rfl rfl rfl (fun _ _ _ h => h) (fun _ => EV.pu rfl) ?_
          refine Ord.take rfl rfl rfl (fun _ _ _ h => h) (fun _ => EV.pu rfl) ?_
          refine Ord.take rfl rfl rfl (fun _ _ _ h => h) (fun _ => EV.idx rfl rfl rfl rfl rfl (by omega) (by omega)) ?_
          refine Ord.take rfl rfl rfl (fun _ _ _ h => h) (fun _ => EV.fld rfl rfl rfl) ?_
          refine Ord.read rfl rfl rfl (fun _ _ _ h => h) (fun w' hF => EV.ld rfl rfl rfl (own_cell hF hlc hl0)) ?_
          have hLq := (hcs8.2 q (by omega)).2
          have hLc := (hcs8.2 cj.toNat (by omega)).2
          rw [heq7] at hLq
          rw [hec7] at hLc
          refine Ord.eff rfl ?_
          refine Ops.bs2 rfl rfl rfl rfl rfl rfl rfl rfl rfl hLq.oneCell hLc.oneCell (fun w9 r9 hM9 => ?_)
          refine Ops.nil (W.endl ⟨fun _ => own_kp h81 hM9.kp (fun _ _ e => e.elim), ?_⟩)
          have h91 := own_kp h81 hM9.kp (fun _ _ e => e.elim)
          have hcs9 : EffC w1 w9 _ cs7 _ := ⟨own_kp hcs8.1 hM9.kp (fun _ _ e => e.elim), fun i hi => ⟨(hcs8.2 i hi).1, (hcs8.2 i hi).2.kp hM9.kp (fun _ e => e.elim)⟩⟩
          have hrb9 := hrb8.kp hM9.kp (fun e => e)
          have hLq9 := hLq.kp hM9.kp (fun _ e => e.elim)
          have hLc9 := hLc.kp hM9.kp (fun _ e => e.elim)
          have hdl9 : dr < w9.heap.size := (hcs9.1.lt dr rfl).2
          refine Ord.eff rfl ?_
          refine Ops.call rfl rfl rfl rfl rfl (concat_c (svs := [_, _]) (xss := [acc.2, (ed es cj).2]) hM9.at_ rfl (fun j hj => ?_) (by simp only [joinF, List.length_append] at hgl1; simp only [List.flatten_cons, List.flatten_nil, List.append_nil, List.length_append]; omega) (by simp)) (fun v w10 hI => ?_)
          · rcases j with _ | _ | j
            · exact hLq9.sl
            · exact hLc9.sl
            · simp at hj; omega
          have k10 : Kp (fun _ => False) w9 w10 := Kp.of_below hI.bel
          have h101 := own_kp h91 k10 (fun _ _ e => e.elim)
          have hcs10 : EffC w1 w10 _ cs7 _ := ⟨own_kp hcs9.1 k10 (fun _ _ e => e.elim), fun i hi => ⟨(hcs9.2 i hi).1, (hcs9.2 i hi).2.kp k10 (fun _ e => e.elim)⟩⟩
          have hE10 : Eff w1 w10 (.slice (some ⟨dr, 0, none⟩) l.length l.length) (es.set q (Min.min 1099511627776 (acc.1 + (ed es cj).1), acc.2)) := (hE8.kp hM9.kp (fun _ e => e.elim)).kp k10 (fun _ e => e.elim)
          have hrb10 := hrb9.kp k10 (fun e => e)
          have hLv : Lf w1 w10 (.slice (some ⟨dr, 0, none⟩) l.length l.length) v (acc.2 ++ (ed es cj).2) := by
            have := Lf.new (w0 := w1) (ov := .slice (some ⟨dr, 0, none⟩) l.length l.length) hI (by have := hM9.size; have := hE8.bel.size; omega) (fun k hk => by simp [Value.ownBlock] at hk; omega)
            simpa using this
          refine Ops.nil (W.endl ⟨fun _ => h101, ?_⟩)
          obtain ⟨g', cap', cur, hsl', hBd, hszd⟩ := own_blk h101 hl0
          simp only [Value.slice.injEq, Option.some.injEq, Addr.mk.injEq, and_true, true_and] at hsl'
          obtain ⟨rfl, _, rfl⟩ := hsl'
          refine Ord.eff rfl ?_
          refine Ops.idx rfl rfl rfl rfl rfl rfl rfl (by omega) (by omega) ?_
          refine Ops.nil (W.endl ⟨fun _ => h101, ?_⟩)
          refine Ord.eff rfl ?_
          refine Ops.fld rfl rfl rfl rfl rfl ?_
          refine Ops.nil (W.endl ⟨fun _ => h101, ?_⟩)
          refine Ord.eff rfl ?_
          rw [add_lit, add_lit, Nat.zero_add]
          refine Ops.st rfl rfl rfl rfl rfl rfl hLv.oneCell hBd (by simp; omega) (fun w11 hu => ?_)
          refine Ops.nil (W.endl ⟨fun h => absurd h (by simp), ?_⟩)
          have h111 := own_set h101 hBd hu
          have k11 : Kp (fun b => (Value.slice (some ⟨dr, 0, none⟩) l.length l.length).ownBlock = some b) w10 w11 := hu.kp.mono (fun i _ e => by simp [Value.ownBlock, e])
          have hE11 := hE10.setL hcs10 (q := q) (by omega) (by rw [hsl7, hel]; exact h111) k11 hLv
          have hrb11 := hE10.frame hrb10 hrbe' k11
          rw [heq7, List.set_set] at hE11
          refine Ord.nil ?_
          (repeat (first | with_reducible refine W.seq ?_ | with_reducible refine Ops.nil ?_ | with_reducible refine W.region ?_ | refine z_p (kk := ?_) | refine z_a (kk := ?_) | refine z_y (kk := ?_) | refine z_n (kk := ?_) | refine z_u (kk := ?_) | with_reducible refine W.skip ?_ | with_reducible refine W.endb ?_ | with_reducible refine W.block ?_ | refine W.exit rfl ?_ | refine z_l (kk := ?_) | refine z_f (kk := ?_) | refine z_M (kk := ?_) | refine z_m (kk := ?_) | refine z_e (kk := ?_) | refine z_E (kk := ?_) | refine z_d (kk := ?_)))
          exact W.endl ⟨_, _, ⟨⟨j + 1, rfl, by omega, rfl, by rw [htk]; exact hE11, hrb11⟩, by omega⟩, (by repeat (first | exact trivial | refine And.intro rfl ?_))⟩
        · have hlt : j = (kid l q).length := by simp at hc; omega
          subst hlt
          rw [List.take_length] at hE5
          have hN6 := hN.set hT hql (hlf q) (x := (kid l q).foldl (joinF es) (0, [])) (by rw [NE, if_neg hnl, if_neg (by rw [hev]; simp)]) rfl
          (repeat (first | with_reducible refine W.seq ?_ | with_reducible refine Ops.nil ?_ | with_reducible refine W.region ?_ | refine z_p (kk := ?_) | refine z_a (kk := ?_) | refine z_y (kk := ?_) | refine z_n (kk := ?_) | refine z_u (kk := ?_) | with_reducible refine W.skip ?_ | with_reducible refine W.endb ?_ | with_reducible refine W.block ?_ | refine W.exit rfl ?_ | refine z_l (kk := ?_) | refine z_f (kk := ?_) | refine z_M (kk := ?_) | refine z_m (kk := ?_) | refine z_e (kk := ?_) | refine z_E (kk := ?_) | refine z_d (kk := ?_)))
          exact W.endl ⟨q, _, ⟨⟨_, by omega, rfl, hE5, hN6, hrb5⟩, by omega⟩, (by repeat (first | exact trivial | refine And.intro rfl ?_))⟩
  · obtain rfl : m = 0 := by simp at hc; omega
    obtain ⟨cs, hcs⟩ := hE.out
    (repeat (first | with_reducible refine W.seq ?_ | with_reducible refine Ops.nil ?_ | with_reducible refine W.region ?_ | refine z_p (kk := ?_) | refine z_a (kk := ?_) | refine z_y (kk := ?_) | refine z_n (kk := ?_) | refine z_u (kk := ?_) | with_reducible refine W.skip ?_ | with_reducible refine W.endb ?_ | with_reducible refine W.block ?_ | refine W.exit rfl ?_ | refine z_l (kk := ?_) | refine z_f (kk := ?_) | refine z_M (kk := ?_) | refine z_m (kk := ?_) | refine z_e (kk := ?_) | refine z_E (kk := ?_) | refine z_d (kk := ?_)))
    refine Ops.rdOA rfl rfl rfl rfl rfl rfl rfl rfl rfl rfl rfl rfl hcs.1 (by omega) (by omega) (fun p => ?_)
    have h0 := hcs.2 0 (by omega)
    simp only [Int.toNat_natCast, Int.toNat_zero, Nat.zero_mul, Nat.zero_add] at h0 ⊢
    have hone : ((cs.getD 0 undef).oneCell' = true) := by rw [h0.1]; rfl
    refine Ops.st2 rfl rfl rfl rfl rfl rfl hone h0.2.oneCell hrb (fun w4 hu => ?_)
    (repeat (first | with_reducible refine W.seq ?_ | with_reducible refine Ops.nil ?_ | with_reducible refine W.region ?_ | refine z_p (kk := ?_) | refine z_a (kk := ?_) | refine z_y (kk := ?_) | refine z_n (kk := ?_) | refine z_u (kk := ?_) | with_reducible refine W.skip ?_ | with_reducible refine W.endb ?_ | with_reducible refine W.block ?_ | refine W.exit rfl ?_ | refine z_l (kk := ?_) | refine z_f (kk := ?_) | refine z_M (kk := ?_) | refine z_m (kk := ?_) | refine z_e (kk := ?_) | refine z_E (kk := ?_) | refine z_d (kk := ?_)))
    have hrbe' : rb < w1.heap.size := by omega
    have hL4 : Lf w1 w4 (.slice (some ⟨dr, 0, none⟩) l.length l.length) (cs.getD 1 undef) (es.getD 0 (0, [])).2 :=
      ⟨own_kp h0.2.1 hu.kp (fun i hi e => by have := (h0.2.2 i hi).1; omega), h0.2.2⟩
    have hb4 : Below w.heap.size w w4 := Below.at_ hb3 hu.kp (fun i hi => by omega)
    refine W.fretC2 rfl rfl rfl rfl hu.blk ⟨hb4, es, _, ⟨hN.len, fun j hj => hN.eq j (Nat.zero_le _) hj⟩, hN.good 0 (Nat.le_refl _) (by omega), by rw [h0.1], ⟨hb4, hL4.1, fun k hk => by have := (hL4.2 k hk).1; omega⟩⟩
end Go.Proofs.Ytdiljpnfochndaa
namespace Go.Proofs.Ytdiljpnfochndaa
open Go Go.RowKit Go.Proofs.Ytdiljpnfochndaa.VW
open Go.Proofs.Ytdiljpnfochndaa.HP (Nd kid wor leafB rd evB TF far Ef ed pickF joinF NE NeedP GoodE gameOf gameOf_TF)
attribute [local irreducible] W Ops
theorem pick_ne {es : List Ef} : ∀ (cs : List Int) (a : Ef), (∀ c ∈ cs, (ed es c).1 < far → (ed es c).2 ≠ []) → (a.1 < far → a.2 ≠ []) → (cs.foldl (pickF es) a).1 < far → (cs.foldl (pickF es) a).2 ≠ []
  | [], a, _, ha, h => ha h
  | c :: r, a, hc, ha, h => by
    refine pick_ne r (pickF es a c) (fun x hx => hc x (by simp [hx])) ?_ h
    unfold pickF
    split
    · exact hc c (by simp)
    · exact ha
theorem join_pre {es : List Ef} : ∀ (cs : List Int) (a : Ef), (∀ c ∈ cs, 0 ≤ (ed es c).1) → a.1 ≤ far → a.1 ≤ (cs.foldl (joinF es) a).1 ∧ a.2.length ≤ (cs.foldl (joinF es) a).2.length
  | [], a, _, _ => ⟨by simp, by simp⟩
  | c :: r, a, hc, ha => by
    have h := join_pre r (joinF es a c) (fun x hx => hc x (by simp [hx])) (by simp only [joinF]; omega)
    have h0 := hc c (by simp)
    simp only [joinF, List.length_append] at h
    simp only [List.foldl_cons, joinF]
    omega
theorem NE_ne {l : List Nd} {dep : List Int} {mx : Bool} {lf : Int → Int} {es : List Ef} {j : Int} (h0 : ∀ c ∈ kid l j, 0 ≤ (ed es c).1) (hc : ∀ c ∈ kid l j, (ed es c).1 < far → (ed es c).2 ≠ []) (h : (NE l dep mx lf es j).1 < far) : (NE l dep mx lf es j).2 ≠ [] := by
  unfold NE at h ⊢
  split at h
  · rename_i hl; rw [if_pos hl]; simp
  · rename_i hl
    rw [if_neg hl]
    split at h
    · rename_i he
      rw [if_pos he]
      exact pick_ne _ _ hc (fun h => by simp at h) h
    · rename_i he
      rw [if_neg he]
      cases hk : kid l j with
      | nil => unfold leafB at hl; rw [hk] at hl; simp at hl
      | cons c r =>
        rw [hk] at h hc h0
        simp only [List.foldl_cons] at h ⊢
        have hp := join_pre r (joinF es (0, []) c) (fun x hx => h0 x (by simp [hx])) (by simp only [joinF]; omega)
        have h1 := h0 c (by simp)
        simp only [joinF] at hp h ⊢
        have hcl : (ed es c).1 < far := by
          have := hp.1
          omega
        have hne := hc c (by simp) hcl
        intro e
        have h2 := hp.2
        rw [e] at h2
        simp at h2
        exact hne h2
theorem NeedP.ne {l : List Nd} {dep : List Int} {mx : Bool} {lf : Int → Int} {es : List Ef} (hT : TF l dep) (hN : NeedP l dep mx lf es) (h0 : ∀ i : Nat, leafB l i = true → 0 ≤ lf i ∧ lf i ≤ far) : ∀ j : Nat, j < l.length → (0 ≤ (es.getD j (0, [])).1 ∧ (es.getD j (0, [])).1 ≤ far) ∧ ((es.getD j (0, [])).1 < far → (es.getD j (0, [])).2 ≠ []) := by
  have key : ∀ d j : Nat, l.length - j = d → j < l.length → (0 ≤ (es.getD j (0, [])).1 ∧ (es.getD j (0, [])).1 ≤ far) ∧ ((es.getD j (0, [])).1 < far → (es.getD j (0, [])).2 ≠ []) := by
    intro d
    induction d using Nat.strongRecOn with
    | _ d ih =>
      intro j hd hj
      have hk : ∀ c ∈ kid l j, (0 ≤ (ed es c).1 ∧ (ed es c).1 ≤ far) ∧ ((ed es c).1 < far → (ed es c).2 ≠ []) := fun c hc => by
        obtain ⟨h1, h2⟩ := Go.Proofs.Ytdiljpnfochndaa.HP.mem_kid hT hj hc
        exact ih (l.length - c.toNat) (by omega) c.toNat rfl (by omega)
      rw [hN.at_ j hj]
      exact ⟨Go.Proofs.Ytdiljpnfochndaa.HP.NE_bd (h0 j) fun c hc => (hk c hc).1, NE_ne (fun c hc => (hk c hc).1.1) fun c hc => (hk c hc).2⟩
  exact fun j hj => key _ j rfl hj
theorem proved_c {w : World} {g : Nat} {l : List Nd} {dep : List Int} {fv : Value} {lf : Int → Int} {mx : Bool} (hG : Game w g l dep) (hT : TF l dep) (hf : Clo w fv lf (fun i => 0 ≤ i ∧ i < l.length ∧ leafB l i = true))
    (hlf : ∀ i : Nat, leafB l i = true → 0 ≤ lf i ∧ lf i ≤ far) :
    Calls Try.prog 57 #[.pointer (some ⟨g, 0, none⟩), .bool mx, fv] w (Ret fun r w' => Below w.heap.size w w' ∧ ∃ es, NeedP l dep mx lf es ∧ GoodE l 0 (es.getD 0 (0, [])).2 ∧
      ((far ≤ (es.getD 0 (0, [])).1 ∧ r = .tuple #[.slice none 0 0, .int .i64 6]) ∨ ((es.getD 0 (0, [])).1 < far ∧ ∃ v, r = .tuple #[v, .int .i64 0] ∧ FInv w w' v ((es.getD 0 (0, [])).2.mergeSort fun x y => decide (x ≤ y))))) := by
  refine calls_W (vs := [_, _, _]) Try.func57 rfl (by kernel_rfl) rfl ?_
  (repeat (first | with_reducible refine W.seq ?_ | with_reducible refine Ops.nil ?_ | with_reducible refine W.region ?_ | refine z_p (kk := ?_) | refine z_a (kk := ?_) | refine z_y (kk := ?_) | refine z_n (kk := ?_) | refine z_u (kk := ?_) | with_reducible refine W.skip ?_ | with_reducible refine W.endb ?_ | with_reducible refine W.block ?_ | refine W.exit rfl ?_ | refine z_l (kk := ?_) | refine z_f (kk := ?_) | refine z_M (kk := ?_) | refine z_m (kk := ?_) | refine z_e (kk := ?_) | refine z_E (kk := ?_) | refine z_d (kk := ?_)))
  refine Ops.call rfl rfl rfl rfl rfl (need_c hG hT hf hlf) (fun r w1 hR => ?_)
  obtain ⟨hb1, es, lv, hN, hGd, rfl, hI⟩ := hR
  generalize hem : (es.getD 0 (0, [])).1 = em at *
  generalize hel : (es.getD 0 (0, [])).2 = el at *
  have hne := NeedP.ne hT hN hlf 0 (by have := hT.n1; omega)
  rw [hem, hel] at hne
  obtain ⟨Al, cl, hlv⟩ := Sl.sl hI.sl
  have hone : lv.oneCell' = true := by rw [hlv]; rfl
  have hll := hGd.len
  have hn60 := hT.n60
  refine Ops.alloc rfl rfl rfl rfl (fun w2 b hM => ?_)
  have hbe := hM.r_eq
  refine Ops.st2 rfl rfl rfl rfl rfl rfl rfl hone hM.at_ (fun w3 hu => ?_)
  have hI3 : FInv w w3 lv el := (hI.kp hM.kp (fun i e => e.elim)).kp hu.kp (fun i hi => ⟨by have := hb1.size; omega, fun e => by have := (hI.own.lt i e).2; omega⟩)
  have hB3 := hu.blk
  (repeat (first | with_reducible refine W.seq ?_ | with_reducible refine Ops.nil ?_ | with_reducible refine W.region ?_ | refine z_p (kk := ?_) | refine z_a (kk := ?_) | refine z_y (kk := ?_) | refine z_n (kk := ?_) | refine z_u (kk := ?_) | with_reducible refine W.skip ?_ | with_reducible refine W.endb ?_ | with_reducible refine W.block ?_ | refine W.exit rfl ?_ | refine z_l (kk := ?_) | refine z_f (kk := ?_) | refine z_M (kk := ?_) | refine z_m (kk := ?_) | refine z_e (kk := ?_) | refine z_E (kk := ?_) | refine z_d (kk := ?_)))
  refine W.cond rfl (fun hc => ?_) (fun hc => ?_)
  · (repeat (first | with_reducible refine W.seq ?_ | with_reducible refine Ops.nil ?_ | with_reducible refine W.region ?_ | refine z_p (kk := ?_) | refine z_a (kk := ?_) | refine z_y (kk := ?_) | refine z_n (kk := ?_) | refine z_u (kk := ?_) | with_reducible refine W.skip ?_ | with_reducible refine W.endb ?_ | with_reducible refine W.block ?_ | refine W.exit rfl ?_ | refine z_l (kk := ?_) | refine z_f (kk := ?_) | refine z_M (kk := ?_) | refine z_m (kk := ?_) | refine z_e (kk := ?_) | refine z_E (kk := ?_) | refine z_d (kk := ?_)))
    exact W.fret rfl ⟨hI3.bel, es, hN, hel ▸ hGd, .inl ⟨by rw [hem]; simpa using hc, rfl⟩⟩
  · have hlt : em < far := by simpa using hc
    have hp : 0 < el.length := List.length_pos_iff.2 (hne.2 hlt)
    (repeat (first | with_reducible refine W.seq ?_ | with_reducible refine Ops.nil ?_ | with_reducible refine W.region ?_ | refine z_p (kk := ?_) | refine z_a (kk := ?_) | refine z_y (kk := ?_) | refine z_n (kk := ?_) | refine z_u (kk := ?_) | with_reducible refine W.skip ?_ | with_reducible refine W.endb ?_ | with_reducible refine W.block ?_ | refine W.exit rfl ?_ | refine z_l (kk := ?_) | refine z_f (kk := ?_) | refine z_M (kk := ?_) | refine z_m (kk := ?_) | refine z_e (kk := ?_) | refine z_E (kk := ?_) | refine z_d (kk := ?_)))
    refine Ops.call rfl rfl rfl rfl rfl (sort_c hI3.own hp (by omega)) (fun r w4 hR => ?_)
    obtain ⟨rfl, ho4, k4⟩ := hR
    have hB4 := hB3.kp k4 (fun e => by have := (hI.own.lt b e).2; omega)
    (repeat (first | with_reducible refine W.seq ?_ | with_reducible refine Ops.nil ?_ | with_reducible refine W.region ?_ | refine z_p (kk := ?_) | refine z_a (kk := ?_) | refine z_y (kk := ?_) | refine z_n (kk := ?_) | refine z_u (kk := ?_) | with_reducible refine W.skip ?_ | with_reducible refine W.endb ?_ | with_reducible refine W.block ?_ | refine W.exit rfl ?_ | refine z_l (kk := ?_) | refine z_f (kk := ?_) | refine z_M (kk := ?_) | refine z_m (kk := ?_) | refine z_e (kk := ?_) | refine z_E (kk := ?_) | refine z_d (kk := ?_)))
    refine W.fret rfl ⟨Below.at_ hI3.bel k4 (fun i hi => hI3.ge i hi), es, hN, hel ▸ hGd, .inr ⟨by rw [hem]; exact hlt, lv, rfl, ⟨Below.at_ hI3.bel k4 (fun i hi => hI3.ge i hi), ?_, hI3.ge⟩⟩⟩
    rw [hel, List.length_mergeSort]
    exact ho4
def proofF (l : List Nd) (b i : Int) : Int := costV (decide (b ≤ wor l i))
def refuteF (l : List Nd) (b i : Int) : Int := costV (decide (wor l i ≤ b))
theorem costV_bd (b : Bool) : 0 ≤ costV b ∧ costV b ≤ far := by cases b <;> decide
/-- What Proof and Refute give. -/
def ProvedR (l : List Nd) (mx : Bool) (lf : Int → Int) (b : Int) (w w' : World) (r : Value) : Prop :=
  (if -1000 ≤ b ∧ b ≤ 1000 then gameOf l else none).elim (r = .tuple #[.slice none 0 0, .int .i64 2]) fun dep => ∃ es, NeedP l dep mx lf es ∧ GoodE l 0 (es.getD 0 (0, [])).2 ∧
    ((far ≤ (es.getD 0 (0, [])).1 ∧ r = .tuple #[.slice none 0 0, .int .i64 6]) ∨ ((es.getD 0 (0, [])).1 < far ∧ ∃ v, r = .tuple #[v, .int .i64 0] ∧ FInv w w' v ((es.getD 0 (0, [])).2.mergeSort fun x y => decide (x ≤ y))))
theorem proof_c {w : World} {v : Value} {l : List Nd} {b : Int} (hT : TreeM w v l) (hl : l.length ≤ 9223372036854775807) :
    Calls Try.prog 18 #[v, .int .i64 b] w (Ret fun r w' => Below w.heap.size w w' ∧ ProvedR l true (proofF l b) b w w' r) := by
  refine calls_W (vs := [_, _]) Try.func18 rfl (by kernel_rfl) rfl ?_
  (repeat (first | with_reducible refine W.seq ?_ | with_reducible refine Ops.nil ?_ | with_reducible refine W.region ?_ | refine z_p (kk := ?_) | refine z_a (kk := ?_) | refine z_y (kk := ?_) | refine z_n (kk := ?_) | refine z_u (kk := ?_) | with_reducible refine W.skip ?_ | with_reducible refine W.endb ?_ | with_reducible refine W.block ?_ | refine W.exit rfl ?_ | refine z_l (kk := ?_) | refine z_f (kk := ?_) | refine z_M (kk := ?_) | refine z_m (kk := ?_) | refine z_e (kk := ?_) | refine z_E (kk := ?_) | refine z_d (kk := ?_)))
  refine Ops.box rfl rfl rfl rfl (fun w1 bb hM1 => ?_)
  have hb1 : Below w.heap.size w w1 := hM1.kp.below (Nat.le_refl _) (fun _ _ e => e)
  (repeat (first | with_reducible refine W.seq ?_ | with_reducible refine Ops.nil ?_ | with_reducible refine W.region ?_ | refine z_p (kk := ?_) | refine z_a (kk := ?_) | refine z_y (kk := ?_) | refine z_n (kk := ?_) | refine z_u (kk := ?_) | with_reducible refine W.skip ?_ | with_reducible refine W.endb ?_ | with_reducible refine W.block ?_ | refine W.exit rfl ?_ | refine z_l (kk := ?_) | refine z_f (kk := ?_) | refine z_M (kk := ?_) | refine z_m (kk := ?_) | refine z_e (kk := ?_) | refine z_E (kk := ?_) | refine z_d (kk := ?_)))
  refine Ops.call rfl rfl rfl rfl rfl (newGame_c (hT.below hb1) hl) (fun r w2 hR => ?_)
  obtain ⟨hb2, hR⟩ := hR
  have hBB2 : Blk w2 bb #[.int .i64 b] 3 := Blk.kp hM1.at_ (Kp.of_below (S := fun _ => False) hb2) (fun e => e)
  have hb02 := hb1.trans (hb2.mono hb1.size)
  cases hg : gameOf l with
  | none =>
    rw [hg] at hR
    obtain ⟨p, hp1, rfl⟩ := hR
    (repeat (first | with_reducible refine W.seq ?_ | with_reducible refine Ops.nil ?_ | with_reducible refine W.region ?_ | refine z_p (kk := ?_) | refine z_a (kk := ?_) | refine z_y (kk := ?_) | refine z_n (kk := ?_) | refine z_u (kk := ?_) | with_reducible refine W.skip ?_ | with_reducible refine W.endb ?_ | with_reducible refine W.block ?_ | refine W.exit rfl ?_ | refine z_l (kk := ?_) | refine z_f (kk := ?_) | refine z_M (kk := ?_) | refine z_m (kk := ?_) | refine z_e (kk := ?_) | refine z_E (kk := ?_) | refine z_d (kk := ?_)))
    refine Ops.alloc rfl rfl rfl rfl (fun w3 g6 hM3 => ?_)
    refine Ops.st rfl rfl rfl rfl rfl rfl hp1 hM3.at_ (by decide) (fun w4 hu => ?_)
    have k4 := hM3.kp.trans hu.kp
    have hb04 : Below w.heap.size w w4 := Below.at_ hb02 k4 (fun i hi => by rcases hi with hi | hi; exact hi.elim; have := hM3.r_eq; have := hb02.size; omega)
    (repeat (first | with_reducible refine W.seq ?_ | with_reducible refine Ops.nil ?_ | with_reducible refine W.region ?_ | refine z_p (kk := ?_) | refine z_a (kk := ?_) | refine z_y (kk := ?_) | refine z_n (kk := ?_) | refine z_u (kk := ?_) | with_reducible refine W.skip ?_ | with_reducible refine W.endb ?_ | with_reducible refine W.block ?_ | refine W.exit rfl ?_ | refine z_l (kk := ?_) | refine z_f (kk := ?_) | refine z_M (kk := ?_) | refine z_m (kk := ?_) | refine z_e (kk := ?_) | refine z_E (kk := ?_) | refine z_d (kk := ?_)))
    refine W.cond rfl (fun hc => ?_) (fun hc => ?_)
    · (repeat (first | with_reducible refine W.seq ?_ | with_reducible refine Ops.nil ?_ | with_reducible refine W.region ?_ | refine z_p (kk := ?_) | refine z_a (kk := ?_) | refine z_y (kk := ?_) | refine z_n (kk := ?_) | refine z_u (kk := ?_) | with_reducible refine W.skip ?_ | with_reducible refine W.endb ?_ | with_reducible refine W.block ?_ | refine W.exit rfl ?_ | refine z_l (kk := ?_) | refine z_f (kk := ?_) | refine z_M (kk := ?_) | refine z_m (kk := ?_) | refine z_e (kk := ?_) | refine z_E (kk := ?_) | refine z_d (kk := ?_)))
      exact W.fret rfl ⟨hb04, by simp only [ProvedR, hg, ite_self]; rfl⟩
    · simp at hc
  | some dep =>
    rw [hg] at hR
    obtain ⟨g, rfl, hgs, hG⟩ := hR
    (repeat (first | with_reducible refine W.seq ?_ | with_reducible refine Ops.nil ?_ | with_reducible refine W.region ?_ | refine z_p (kk := ?_) | refine z_a (kk := ?_) | refine z_y (kk := ?_) | refine z_n (kk := ?_) | refine z_u (kk := ?_) | with_reducible refine W.skip ?_ | with_reducible refine W.endb ?_ | with_reducible refine W.block ?_ | refine W.exit rfl ?_ | refine z_l (kk := ?_) | refine z_f (kk := ?_) | refine z_M (kk := ?_) | refine z_m (kk := ?_) | refine z_e (kk := ?_) | refine z_E (kk := ?_) | refine z_d (kk := ?_)))
    refine Ops.alloc rfl rfl rfl rfl (fun w3 g6 hM3 => ?_)
    refine Ops.st rfl rfl rfl rfl rfl rfl rfl hM3.at_ (by decide) (fun w4 hu => ?_)
    have k4 := hM3.kp.trans hu.kp
    have hb24 : Below w2.heap.size w2 w4 := Below.at_ (Below.refl _ _) k4 (fun i hi => by rcases hi with hi | hi; exact hi.elim; have := hM3.r_eq; omega)
    have hb04 : Below w.heap.size w w4 := hb02.trans (hb24.mono hb02.size)
    have hBB4 := hBB2.kp (Kp.of_below (S := fun _ => False) hb24) (fun e => e)
    have hG4 := hG.below hb24
    have hGB4 : Blk w4 g6 #[.pointer (some ⟨g, 0, none⟩)] 69 := hu.blk
    (repeat (first | with_reducible refine W.seq ?_ | with_reducible refine Ops.nil ?_ | with_reducible refine W.region ?_ | refine z_p (kk := ?_) | refine z_a (kk := ?_) | refine z_y (kk := ?_) | refine z_n (kk := ?_) | refine z_u (kk := ?_) | with_reducible refine W.skip ?_ | with_reducible refine W.endb ?_ | with_reducible refine W.block ?_ | refine W.exit rfl ?_ | refine z_l (kk := ?_) | refine z_f (kk := ?_) | refine z_M (kk := ?_) | refine z_m (kk := ?_) | refine z_e (kk := ?_) | refine z_E (kk := ?_) | refine z_d (kk := ?_)))
    refine Ops.callS rfl rfl rfl rfl rfl (isBound_c _ _) ?_
    (repeat (first | with_reducible refine W.seq ?_ | with_reducible refine Ops.nil ?_ | with_reducible refine W.region ?_ | refine z_p (kk := ?_) | refine z_a (kk := ?_) | refine z_y (kk := ?_) | refine z_n (kk := ?_) | refine z_u (kk := ?_) | with_reducible refine W.skip ?_ | with_reducible refine W.endb ?_ | with_reducible refine W.block ?_ | refine W.exit rfl ?_ | refine z_l (kk := ?_) | refine z_f (kk := ?_) | refine z_M (kk := ?_) | refine z_m (kk := ?_) | refine z_e (kk := ?_) | refine z_E (kk := ?_) | refine z_d (kk := ?_)))
    refine W.cond rfl (fun hc => ?_) (fun hc => ?_)
    · (repeat (first | with_reducible refine W.seq ?_ | with_reducible refine Ops.nil ?_ | with_reducible refine W.region ?_ | refine z_p (kk := ?_) | refine z_a (kk := ?_) | refine z_y (kk := ?_) | refine z_n (kk := ?_) | refine z_u (kk := ?_) | with_reducible refine W.skip ?_ | with_reducible refine W.endb ?_ | with_reducible refine W.block ?_ | refine W.exit rfl ?_ | refine z_l (kk := ?_) | refine z_f (kk := ?_) | refine z_M (kk := ?_) | refine z_m (kk := ?_) | refine z_e (kk := ?_) | refine z_E (kk := ?_) | refine z_d (kk := ?_)))
      exact W.fret rfl ⟨hb04, by simp only [ProvedR]; rw [if_neg (by simp at hc; omega)]; rfl⟩
    · have hbd : -1000 ≤ b ∧ b ≤ 1000 := by simp at hc; omega
      (repeat (first | with_reducible refine W.seq ?_ | with_reducible refine Ops.nil ?_ | with_reducible refine W.region ?_ | refine z_p (kk := ?_) | refine z_a (kk := ?_) | refine z_y (kk := ?_) | refine z_n (kk := ?_) | refine z_u (kk := ?_) | with_reducible refine W.skip ?_ | with_reducible refine W.endb ?_ | with_reducible refine W.block ?_ | refine W.exit rfl ?_ | refine z_l (kk := ?_) | refine z_f (kk := ?_) | refine z_M (kk := ?_) | refine z_m (kk := ?_) | refine z_e (kk := ?_) | refine z_E (kk := ?_) | refine z_d (kk := ?_)))
      refine Ops.call rfl rfl rfl rfl rfl (proved_c (lf := proofF l b) hG4 (gameOf_TF hg) ⟨58, [], [.pointer (some ⟨g6, 0, none⟩), .pointer (some ⟨bb, 0, none⟩)], rfl, rfl, fun i w' hb' hi => proof1_c (hG4.below hb') (hGB4.kp (Kp.of_below (S := fun _ => False) hb') (fun e => e)) (hBB4.kp (Kp.of_below (S := fun _ => False) hb') (fun e => e)) i hi.1 hi.2.1⟩ (fun i _ => costV_bd _)) (fun r w5 hR => ?_)
      obtain ⟨hb5, es, hN, hGd, hR⟩ := hR
      have hb05 := hb04.trans (hb5.mono hb04.size)
      have hfin : ProvedR l true (proofF l b) b w w5 r := by
        simp only [ProvedR]
        rw [if_pos hbd, hg]
        refine ⟨es, hN, hGd, ?_⟩
        rcases hR with h | ⟨h1, v', h2, h3⟩
        · exact .inl h
        · exact .inr ⟨h1, v', h2, ⟨hb05, h3.own, fun k hk => Nat.le_trans hb04.size (h3.ge k hk)⟩⟩
      rcases hR with ⟨_, rfl⟩ | ⟨_, v', rfl, _⟩
      · (repeat (first | with_reducible refine W.seq ?_ | with_reducible refine Ops.nil ?_ | with_reducible refine W.region ?_ | refine z_p (kk := ?_) | refine z_a (kk := ?_) | refine z_y (kk := ?_) | refine z_n (kk := ?_) | refine z_u (kk := ?_) | with_reducible refine W.skip ?_ | with_reducible refine W.endb ?_ | with_reducible refine W.block ?_ | refine W.exit rfl ?_ | refine z_l (kk := ?_) | refine z_f (kk := ?_) | refine z_M (kk := ?_) | refine z_m (kk := ?_) | refine z_e (kk := ?_) | refine z_E (kk := ?_) | refine z_d (kk := ?_)))
        exact W.fret rfl ⟨hb05, hfin⟩
      · (repeat (first | with_reducible refine W.seq ?_ | with_reducible refine Ops.nil ?_ | with_reducible refine W.region ?_ | refine z_p (kk := ?_) | refine z_a (kk := ?_) | refine z_y (kk := ?_) | refine z_n (kk := ?_) | refine z_u (kk := ?_) | with_reducible refine W.skip ?_ | with_reducible refine W.endb ?_ | with_reducible refine W.block ?_ | refine W.exit rfl ?_ | refine z_l (kk := ?_) | refine z_f (kk := ?_) | refine z_M (kk := ?_) | refine z_m (kk := ?_) | refine z_e (kk := ?_) | refine z_E (kk := ?_) | refine z_d (kk := ?_)))
        exact W.fret rfl ⟨hb05, hfin⟩
theorem refute_c {w : World} {v : Value} {l : List Nd} {b : Int} (hT : TreeM w v l) (hl : l.length ≤ 9223372036854775807) :
    Calls Try.prog 19 #[v, .int .i64 b] w (Ret fun r w' => Below w.heap.size w w' ∧ ProvedR l false (refuteF l b) b w w' r) := by
  refine calls_W (vs := [_, _]) Try.func19 rfl (by kernel_rfl) rfl ?_
  (repeat (first | with_reducible refine W.seq ?_ | with_reducible refine Ops.nil ?_ | with_reducible refine W.region ?_ | refine z_p (kk := ?_) | refine z_a (kk := ?_) | refine z_y (kk := ?_) | refine z_n (kk := ?_) | refine z_u (kk := ?_) | with_reducible refine W.skip ?_ | with_reducible refine W.endb ?_ | with_reducible refine W.block ?_ | refine W.exit rfl ?_ | refine z_l (kk := ?_) | refine z_f (kk := ?_) | refine z_M (kk := ?_) | refine z_m (kk := ?_) | refine z_e (kk := ?_) | refine z_E (kk := ?_) | refine z_d (kk := ?_)))
  refine Ops.box rfl rfl rfl rfl (fun w1 bb hM1 => ?_)
  have hb1 : Below w.heap.size w w1 := hM1.kp.below (Nat.le_refl _) (fun _ _ e => e)
  (repeat (first | with_reducible refine W.seq ?_ | with_reducible refine Ops.nil ?_ | with_reducible refine W.region ?_ | refine z_p (kk := ?_) | refine z_a (kk := ?_) | refine z_y (kk := ?_) | refine z_n (kk := ?_) | refine z_u (kk := ?_) | with_reducible refine W.skip ?_ | with_reducible refine W.endb ?_ | with_reducible refine W.block ?_ | refine W.exit rfl ?_ | refine z_l (kk := ?_) | refine z_f (kk := ?_) | refine z_M (kk := ?_) | refine z_m (kk := ?_) | refine z_e (kk := ?_) | refine z_E (kk := ?_) | refine z_d (kk := ?_)))
  refine Ops.call rfl rfl rfl rfl rfl (newGame_c (hT.below hb1) hl) (fun r w2 hR => ?_)
  obtain ⟨hb2, hR⟩ := hR
  have hBB2 : Blk w2 bb #[.int .i64 b] 3 := Blk.kp hM1.at_ (Kp.of_below (S := fun _ => False) hb2) (fun e => e)
  have hb02 := hb1.trans (hb2.mono hb1.size)
  cases hg : gameOf l with
  | none =>
    rw [hg] at hR
    obtain ⟨p, hp1, rfl⟩ := hR
    (repeat (first | with_reducible refine W.seq ?_ | with_reducible refine Ops.nil ?_ | with_reducible refine W.region ?_ | refine z_p (kk := ?_) | refine z_a (kk := ?_) | refine z_y (kk := ?_) | refine z_n (kk := ?_) | refine z_u (kk := ?_) | with_reducible refine W.skip ?_ | with_reducible refine W.endb ?_ | with_reducible refine W.block ?_ | refine W.exit rfl ?_ | refine z_l (kk := ?_) | refine z_f (kk := ?_) | refine z_M (kk := ?_) | refine z_m (kk := ?_) | refine z_e (kk := ?_) | refine z_E (kk := ?_) | refine z_d (kk := ?_)))
    refine Ops.alloc rfl rfl rfl rfl (fun w3 g6 hM3 => ?_)
    refine Ops.st rfl rfl rfl rfl rfl rfl hp1 hM3.at_ (by decide) (fun w4 hu => ?_)
    have k4 := hM3.kp.trans hu.kp
    have hb04 : Below w.heap.size w w4 := Below.at_ hb02 k4 (fun i hi => by rcases hi with hi | hi; exact hi.elim; have := hM3.r_eq; have := hb02.size; omega)
    (repeat (first | with_reducible refine W.seq ?_ | with_reducible refine Ops.nil ?_ | with_reducible refine W.region ?_ | refine z_p (kk := ?_) | refine z_a (kk := ?_) | refine z_y (kk := ?_) | refine z_n (kk := ?_) | refine z_u (kk := ?_) | with_reducible refine W.skip ?_ | with_reducible refine W.endb ?_ | with_reducible refine W.block ?_ | refine W.exit rfl ?_ | refine z_l (kk := ?_) | refine z_f (kk := ?_) | refine z_M (kk := ?_) | refine z_m (kk := ?_) | refine z_e (kk := ?_) | refine z_E (kk := ?_) | refine z_d (kk := ?_)))
    refine W.cond rfl (fun hc => ?_) (fun hc => ?_)
    · (repeat (first | with_reducible refine W.seq ?_ | with_reducible refine Ops.nil ?_ | with_reducible refine W.region ?_ | refine z_p (kk := ?_) | refine z_a (kk := ?_) | refine z_y (kk := ?_) | refine z_n (kk := ?_) | refine z_u (kk := ?_) | with_reducible refine W.skip ?_ | with_reducible refine W.endb ?_ | with_reducible refine W.block ?_ | refine W.exit rfl ?_ | refine z_l (kk := ?_) | refine z_f (kk := ?_) | refine z_M (kk := ?_) | refine z_m (kk := ?_) | refine z_e (kk := ?_) | refine z_E (kk := ?_) | refine z_d (kk := ?_)))
      exact W.fret rfl ⟨hb04, by simp only [ProvedR, hg, ite_self]; rfl⟩
    · simp at hc
  | some dep =>
    rw [hg] at hR
    obtain ⟨g, rfl, hgs, hG⟩ := hR
    (repeat (first | with_reducible refine W.seq ?_ | with_reducible refine Ops.nil ?_ | with_reducible refine W.region ?_ | refine z_p (kk := ?_) | refine z_a (kk := ?_) | refine z_y (kk := ?_) | refine z_n (kk := ?_) | refine z_u (kk := ?_) | with_reducible refine W.skip ?_ | with_reducible refine W.endb ?_ | with_reducible refine W.block ?_ | refine W.exit rfl ?_ | refine z_l (kk := ?_) | refine z_f (kk := ?_) | refine z_M (kk := ?_) | refine z_m (kk := ?_) | refine z_e (kk := ?_) | refine z_E (kk := ?_) | refine z_d (kk := ?_)))
    refine Ops.alloc rfl rfl rfl rfl (fun w3 g6 hM3 => ?_)
    refine Ops.st rfl rfl rfl rfl rfl rfl rfl hM3.at_ (by decide) (fun w4 hu => ?_)
    have k4 := hM3.kp.trans hu.kp
    have hb24 : Below w2.heap.size w2 w4 := Below.at_ (Below.refl _ _) k4 (fun i hi => by rcases hi with hi | hi; exact hi.elim; have := hM3.r_eq; omega)
    have hb04 : Below w.heap.size w w4 := hb02.trans (hb24.mono hb02.size)
    have hBB4 := hBB2.kp (Kp.of_below (S := fun _ => False) hb24) (fun e => e)
    have hG4 := hG.below hb24
    have hGB4 : Blk w4 g6 #[.pointer (some ⟨g, 0, none⟩)] 69 := hu.blk
    (repeat (first | with_reducible refine W.seq ?_ | with_reducible refine Ops.nil ?_ | with_reducible refine W.region ?_ | refine z_p (kk := ?_) | refine z_a (kk := ?_) | refine z_y (kk := ?_) | refine z_n (kk := ?_) | refine z_u (kk := ?_) | with_reducible refine W.skip ?_ | with_reducible refine W.endb ?_ | with_reducible refine W.block ?_ | refine W.exit rfl ?_ | refine z_l (kk := ?_) | refine z_f (kk := ?_) | refine z_M (kk := ?_) | refine z_m (kk := ?_) | refine z_e (kk := ?_) | refine z_E (kk := ?_) | refine z_d (kk := ?_)))
    refine Ops.callS rfl rfl rfl rfl rfl (isBound_c _ _) ?_
    (repeat (first | with_reducible refine W.seq ?_ | with_reducible refine Ops.nil ?_ | with_reducible refine W.region ?_ | refine z_p (kk := ?_) | refine z_a (kk := ?_) | refine z_y (kk := ?_) | refine z_n (kk := ?_) | refine z_u (kk := ?_) | with_reducible refine W.skip ?_ | with_reducible refine W.endb ?_ | with_reducible refine W.block ?_ | refine W.exit rfl ?_ | refine z_l (kk := ?_) | refine z_f (kk := ?_) | refine z_M (kk := ?_) | refine z_m (kk := ?_) | refine z_e (kk := ?_) | refine z_E (kk := ?_) | refine z_d (kk := ?_)))
    refine W.cond rfl (fun hc => ?_) (fun hc => ?_)
    · (repeat (first | with_reducible refine W.seq ?_ | with_reducible refine Ops.nil ?_ | with_reducible refine W.region ?_ | refine z_p (kk := ?_) | refine z_a (kk := ?_) | refine z_y (kk := ?_) | refine z_n (kk := ?_) | refine z_u (kk := ?_) | with_reducible refine W.skip ?_ | with_reducible refine W.endb ?_ | with_reducible refine W.block ?_ | refine W.exit rfl ?_ | refine z_l (kk := ?_) | refine z_f (kk := ?_) | refine z_M (kk := ?_) | refine z_m (kk := ?_) | refine z_e (kk := ?_) | refine z_E (kk := ?_) | refine z_d (kk := ?_)))
      exact W.fret rfl ⟨hb04, by simp only [ProvedR]; rw [if_neg (by simp at hc; omega)]; rfl⟩
    · have hbd : -1000 ≤ b ∧ b ≤ 1000 := by simp at hc; omega
      (repeat (first | with_reducible refine W.seq ?_ | with_reducible refine Ops.nil ?_ | with_reducible refine W.region ?_ | refine z_p (kk := ?_) | refine z_a (kk := ?_) | refine z_y (kk := ?_) | refine z_n (kk := ?_) | refine z_u (kk := ?_) | with_reducible refine W.skip ?_ | with_reducible refine W.endb ?_ | with_reducible refine W.block ?_ | refine W.exit rfl ?_ | refine z_l (kk := ?_) | refine z_f (kk := ?_) | refine z_M (kk := ?_) | refine z_m (kk := ?_) | refine z_e (kk := ?_) | refine z_E (kk := ?_) | refine z_d (kk := ?_)))
      refine Ops.call rfl rfl rfl rfl rfl (proved_c (lf := refuteF l b) hG4 (gameOf_TF hg) ⟨61, [], [.pointer (some ⟨g6, 0, none⟩), .pointer (some ⟨bb, 0, none⟩)], rfl, rfl, fun i w' hb' hi => refute1_c (hG4.below hb') (hGB4.kp (Kp.of_below (S := fun _ => False) hb') (fun e => e)) (hBB4.kp (Kp.of_below (S := fun _ => False) hb') (fun e => e)) i hi.1 hi.2.1⟩ (fun i _ => costV_bd _)) (fun r w5 hR => ?_)
      obtain ⟨hb5, es, hN, hGd, hR⟩ := hR
      have hb05 := hb04.trans (hb5.mono hb04.size)
      have hfin : ProvedR l false (refuteF l b) b w w5 r := by
        simp only [ProvedR]
        rw [if_pos hbd, hg]
        refine ⟨es, hN, hGd, ?_⟩
        rcases hR with h | ⟨h1, v', h2, h3⟩
        · exact .inl h
        · exact .inr ⟨h1, v', h2, ⟨hb05, h3.own, fun k hk => Nat.le_trans hb04.size (h3.ge k hk)⟩⟩
      rcases hR with ⟨_, rfl⟩ | ⟨_, v', rfl, _⟩
      · (repeat (first | with_reducible refine W.seq ?_ | with_reducible refine Ops.nil ?_ | with_reducible refine W.region ?_ | refine z_p (kk := ?_) | refine z_a (kk := ?_) | refine z_y (kk := ?_) | refine z_n (kk := ?_) | refine z_u (kk := ?_) | with_reducible refine W.skip ?_ | with_reducible refine W.endb ?_ | with_reducible refine W.block ?_ | refine W.exit rfl ?_ | refine z_l (kk := ?_) | refine z_f (kk := ?_) | refine z_M (kk := ?_) | refine z_m (kk := ?_) | refine z_e (kk := ?_) | refine z_E (kk := ?_) | refine z_d (kk := ?_)))
        exact W.fret rfl ⟨hb05, hfin⟩
      · (repeat (first | with_reducible refine W.seq ?_ | with_reducible refine Ops.nil ?_ | with_reducible refine W.region ?_ | refine z_p (kk := ?_) | refine z_a (kk := ?_) | refine z_y (kk := ?_) | refine z_n (kk := ?_) | refine z_u (kk := ?_) | with_reducible refine W.skip ?_ | with_reducible refine W.endb ?_ | with_reducible refine W.block ?_ | refine W.exit rfl ?_ | refine z_l (kk := ?_) | refine z_f (kk := ?_) | refine z_M (kk := ?_) | refine z_m (kk := ?_) | refine z_e (kk := ?_) | refine z_E (kk := ?_) | refine z_d (kk := ?_)))
        exact W.fret rfl ⟨hb05, hfin⟩
end Go.Proofs.Ytdiljpnfochndaa
