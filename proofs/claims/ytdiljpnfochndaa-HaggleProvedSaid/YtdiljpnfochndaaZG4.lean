/- A part of the walk: what this seat's statements share. -/
import Derived.Test.YtdiljpnfochndaaZG3
import Derived.Test.YtdiljpnfochndaaZG2
import Derived.Scope
set_option linter.unusedVariables false
set_option linter.unusedSimpArgs false
set_option linter.unusedSectionVars false
namespace Go.Proofs.Ytdiljpnfochndaa
open Go Go.RowKit Go.Proofs.Ytdiljpnfochndaa.VW
open Go.Proofs.Ytdiljpnfochndaa.HP (Nd kid wor leafB rd evB TF)
attribute [local irreducible] W Ops
theorem grow_c {w : World} (i : Int) (h0 : 0 ≤ i) (h1 : i ≤ 1000000) : Calls Try.prog 102 #[.slice none 0 0, .int .i64 i] w (Ret fun r w' => FInv w w' r []) := by
  refine calls_W (vs := [_, _]) Try.func102 rfl (by kernel_rfl) rfl ?_
  (repeat (first | with_reducible refine W.seq ?_ | with_reducible refine Ops.nil ?_ | with_reducible refine W.region ?_ | refine Ops.pu rfl rfl rfl ?_ | refine Ops.ar rfl rfl rfl (by omega) ?_ | refine Ops.yes rfl rfl rfl ?_ | refine Ops.no rfl rfl rfl rfl rfl ?_ | refine Ops.nu rfl rfl rfl rfl ?_ | with_reducible refine W.skip ?_ | with_reducible refine W.endb ?_ | with_reducible refine W.block ?_ | refine W.exit rfl ?_ | refine Ops.len rfl rfl rfl rfl rfl ?_ | refine Ops.flp rfl rfl rfl rfl rfl ?_ | refine Ops.max rfl rfl rfl rfl rfl ?_ | refine Ops.min rfl rfl rfl rfl rfl ?_ | refine Ops.eqB rfl rfl rfl rfl rfl rfl ?_ | refine Ops.neB rfl rfl rfl rfl rfl rfl ?_ | (apply Ops.ldB rfl rfl rfl rfl rfl; assumption; rfl)))
  refine W.cond rfl (fun hc => ?_) (fun hc => ?_)
  · simp at hc; omega
  (repeat (first | with_reducible refine W.seq ?_ | with_reducible refine Ops.nil ?_ | with_reducible refine W.region ?_ | refine Ops.pu rfl rfl rfl ?_ | refine Ops.ar rfl rfl rfl (by omega) ?_ | refine Ops.yes rfl rfl rfl ?_ | refine Ops.no rfl rfl rfl rfl rfl ?_ | refine Ops.nu rfl rfl rfl rfl ?_ | with_reducible refine W.skip ?_ | with_reducible refine W.endb ?_ | with_reducible refine W.block ?_ | refine W.exit rfl ?_ | refine Ops.len rfl rfl rfl rfl rfl ?_ | refine Ops.flp rfl rfl rfl rfl rfl ?_ | refine Ops.max rfl rfl rfl rfl rfl ?_ | refine Ops.min rfl rfl rfl rfl rfl ?_ | refine Ops.eqB rfl rfl rfl rfl rfl rfl ?_ | refine Ops.neB rfl rfl rfl rfl rfl rfl ?_ | (apply Ops.ldB rfl rfl rfl rfl rfl; assumption; rfl)))
  refine Ops.cap rfl rfl rfl rfl rfl ?_
  (repeat (first | with_reducible refine W.seq ?_ | with_reducible refine Ops.nil ?_ | with_reducible refine W.region ?_ | refine Ops.pu rfl rfl rfl ?_ | refine Ops.ar rfl rfl rfl (by omega) ?_ | refine Ops.yes rfl rfl rfl ?_ | refine Ops.no rfl rfl rfl rfl rfl ?_ | refine Ops.nu rfl rfl rfl rfl ?_ | with_reducible refine W.skip ?_ | with_reducible refine W.endb ?_ | with_reducible refine W.block ?_ | refine W.exit rfl ?_ | refine Ops.len rfl rfl rfl rfl rfl ?_ | refine Ops.flp rfl rfl rfl rfl rfl ?_ | refine Ops.max rfl rfl rfl rfl rfl ?_ | refine Ops.min rfl rfl rfl rfl rfl ?_ | refine Ops.eqB rfl rfl rfl rfl rfl rfl ?_ | refine Ops.neB rfl rfl rfl rfl rfl rfl ?_ | (apply Ops.ldB rfl rfl rfl rfl rfl; assumption; rfl)))
  refine W.cond rfl (fun hc => ?_) (fun hc => ?_)
  · simp at hc
    (repeat (first | with_reducible refine W.seq ?_ | with_reducible refine Ops.nil ?_ | with_reducible refine W.region ?_ | refine Ops.pu rfl rfl rfl ?_ | refine Ops.ar rfl rfl rfl (by omega) ?_ | refine Ops.yes rfl rfl rfl ?_ | refine Ops.no rfl rfl rfl rfl rfl ?_ | refine Ops.nu rfl rfl rfl rfl ?_ | with_reducible refine W.skip ?_ | with_reducible refine W.endb ?_ | with_reducible refine W.block ?_ | refine W.exit rfl ?_ | refine Ops.len rfl rfl rfl rfl rfl ?_ | refine Ops.flp rfl rfl rfl rfl rfl ?_ | refine Ops.max rfl rfl rfl rfl rfl ?_ | refine Ops.min rfl rfl rfl rfl rfl ?_ | refine Ops.eqB rfl rfl rfl rfl rfl rfl ?_ | refine Ops.neB rfl rfl rfl rfl rfl rfl ?_ | (apply Ops.ldB rfl rfl rfl rfl rfl; assumption; rfl)))
    refine Ops.cap rfl rfl rfl rfl rfl ?_
    refine Ops.slH rfl rfl rfl rfl rfl rfl rfl (by simp) (by simp) ?_
    (repeat (first | with_reducible refine W.seq ?_ | with_reducible refine Ops.nil ?_ | with_reducible refine W.region ?_ | refine Ops.pu rfl rfl rfl ?_ | refine Ops.ar rfl rfl rfl (by omega) ?_ | refine Ops.yes rfl rfl rfl ?_ | refine Ops.no rfl rfl rfl rfl rfl ?_ | refine Ops.nu rfl rfl rfl rfl ?_ | with_reducible refine W.skip ?_ | with_reducible refine W.endb ?_ | with_reducible refine W.block ?_ | refine W.exit rfl ?_ | refine Ops.len rfl rfl rfl rfl rfl ?_ | refine Ops.flp rfl rfl rfl rfl rfl ?_ | refine Ops.max rfl rfl rfl rfl rfl ?_ | refine Ops.min rfl rfl rfl rfl rfl ?_ | refine Ops.eqB rfl rfl rfl rfl rfl rfl ?_ | refine Ops.neB rfl rfl rfl rfl rfl rfl ?_ | (apply Ops.ldB rfl rfl rfl rfl rfl; assumption; rfl)))
    refine Ops.appZ rfl rfl rfl rfl rfl rfl rfl rfl rfl rfl rfl (by omega) (by omega) (fun r c w1 hr hcap hown k1 => ?_)
    (repeat (first | with_reducible refine W.seq ?_ | with_reducible refine Ops.nil ?_ | with_reducible refine W.region ?_ | refine Ops.pu rfl rfl rfl ?_ | refine Ops.ar rfl rfl rfl (by omega) ?_ | refine Ops.yes rfl rfl rfl ?_ | refine Ops.no rfl rfl rfl rfl rfl ?_ | refine Ops.nu rfl rfl rfl rfl ?_ | with_reducible refine W.skip ?_ | with_reducible refine W.endb ?_ | with_reducible refine W.block ?_ | refine W.exit rfl ?_ | refine Ops.len rfl rfl rfl rfl rfl ?_ | refine Ops.flp rfl rfl rfl rfl rfl ?_ | refine Ops.max rfl rfl rfl rfl rfl ?_ | refine Ops.min rfl rfl rfl rfl rfl ?_ | refine Ops.eqB rfl rfl rfl rfl rfl rfl ?_ | refine Ops.neB rfl rfl rfl rfl rfl rfl ?_ | (apply Ops.ldB rfl rfl rfl rfl rfl; assumption; rfl)))
    refine Ops.slH rfl rfl rfl rfl rfl rfl rfl (by simp) (by simp) ?_
    (repeat (first | with_reducible refine W.seq ?_ | with_reducible refine Ops.nil ?_ | with_reducible refine W.region ?_ | refine Ops.pu rfl rfl rfl ?_ | refine Ops.ar rfl rfl rfl (by omega) ?_ | refine Ops.yes rfl rfl rfl ?_ | refine Ops.no rfl rfl rfl rfl rfl ?_ | refine Ops.nu rfl rfl rfl rfl ?_ | with_reducible refine W.skip ?_ | with_reducible refine W.endb ?_ | with_reducible refine W.block ?_ | refine W.exit rfl ?_ | refine Ops.len rfl rfl rfl rfl rfl ?_ | refine Ops.flp rfl rfl rfl rfl rfl ?_ | refine Ops.max rfl rfl rfl rfl rfl ?_ | refine Ops.min rfl rfl rfl rfl rfl ?_ | refine Ops.eqB rfl rfl rfl rfl rfl rfl ?_ | refine Ops.neB rfl rfl rfl rfl rfl rfl ?_ | (apply Ops.ldB rfl rfl rfl rfl rfl; assumption; rfl)))
    refine W.fret rfl ⟨k1.below (Nat.le_refl _) (fun _ _ e => e), hown, fun k hk => ?_⟩
    simp [resV, Value.ownBlock] at hk
    omega
  · (repeat (first | with_reducible refine W.seq ?_ | with_reducible refine Ops.nil ?_ | with_reducible refine W.region ?_ | refine Ops.pu rfl rfl rfl ?_ | refine Ops.ar rfl rfl rfl (by omega) ?_ | refine Ops.yes rfl rfl rfl ?_ | refine Ops.no rfl rfl rfl rfl rfl ?_ | refine Ops.nu rfl rfl rfl rfl ?_ | with_reducible refine W.skip ?_ | with_reducible refine W.endb ?_ | with_reducible refine W.block ?_ | refine W.exit rfl ?_ | refine Ops.len rfl rfl rfl rfl rfl ?_ | refine Ops.flp rfl rfl rfl rfl rfl ?_ | refine Ops.max rfl rfl rfl rfl rfl ?_ | refine Ops.min rfl rfl rfl rfl rfl ?_ | refine Ops.eqB rfl rfl rfl rfl rfl rfl ?_ | refine Ops.neB rfl rfl rfl rfl rfl rfl ?_ | (apply Ops.ldB rfl rfl rfl rfl rfl; assumption; rfl)))
    exact W.fret rfl (FInv.nil (Below.refl _ _))
/-- Slices of numbers in a slice of slices. -/
theorem concat_c {w : World} {r c : Nat} {svs : List Value} {xss : List (List Int)} (hB : Blk w r svs.toArray 24) (hl : svs.length = xss.length) (hs : ∀ j, j < xss.length → SlI w (svs.getD j undef) (xss.getD j [])) (hsum : xss.flatten.length ≤ 1000) (hn : xss.length ≤ 1000) :
    Calls Try.prog 94 #[.slice (some ⟨r, 0, none⟩) xss.length c] w (Ret fun v w' => FInv w w' v xss.flatten) := by
  have hcell : ∀ (w' : World) j, Below w.heap.size w w' → j < xss.length → w'.cell? ((⟨r, 0, none⟩ : Addr).add (j * 1)) = some (svs.getD j undef) := by
    intro w' j hb hj
    rw [Nat.mul_one, add_lit, Nat.zero_add]
    refine (hB.kp (Kp.of_below (S := fun _ => False) hb) (fun e => e)).cell ?_
    simp [List.getD_eq_getElem?_getD, hl, hj]
  have hpre : ∀ j, j ≤ xss.length → (xss.take j).flatten.length ≤ 1000 := by
    intro j hj
    have : xss.flatten.length = (xss.take j).flatten.length + (xss.drop j).flatten.length := by
      rw [← List.length_append, ← List.flatten_append, List.take_append_drop]
    omega
  have hstep : ∀ j, j < xss.length → (xss.take (j + 1)).flatten = (xss.take j).flatten ++ xss.getD j [] := by
    intro j hj
    rw [List.take_succ_eq_append_getElem hj, List.flatten_append]
    simp [List.getD_eq_getElem?_getD, hj]
  refine calls_W (vs := [_]) Try.func94 rfl (by kernel_rfl) rfl ?_
  (repeat (first | with_reducible refine W.seq ?_ | with_reducible refine Ops.nil ?_ | with_reducible refine W.region ?_ | refine Ops.pu rfl rfl rfl ?_ | refine Ops.ar rfl rfl rfl (by omega) ?_ | refine Ops.yes rfl rfl rfl ?_ | refine Ops.no rfl rfl rfl rfl rfl ?_ | refine Ops.nu rfl rfl rfl rfl ?_ | with_reducible refine W.skip ?_ | with_reducible refine W.endb ?_ | with_reducible refine W.block ?_ | refine W.exit rfl ?_ | refine Ops.len rfl rfl rfl rfl rfl ?_ | refine Ops.flp rfl rfl rfl rfl rfl ?_ | refine Ops.max rfl rfl rfl rfl rfl ?_ | refine Ops.min rfl rfl rfl rfl rfl ?_ | refine Ops.eqB rfl rfl rfl rfl rfl rfl ?_ | refine Ops.neB rfl rfl rfl rfl rfl rfl ?_ | (apply Ops.ldB rfl rfl rfl rfl rfl; assumption; rfl)))
  refine W.loop (fun m ρ w1 => ∃ j : Nat, m = xss.length - j ∧ j ≤ xss.length ∧ ρ = [(0, .slice (some ⟨r, 0, none⟩) xss.length c), (3, .int .i64 ((xss.take j).flatten.length : Nat)), (9, .slice (some ⟨r, 0, none⟩) xss.length c), (10, .int .i64 xss.length), (11, .int .i64 j)] ∧ w1 = w)
    ⟨_, _, ⟨0, rfl, Nat.zero_le _, rfl, rfl⟩, (by repeat (first | exact trivial | refine And.intro rfl ?_))⟩ ?_
  rintro m ρ w1 ⟨j, rfl, hj, rfl, rfl⟩
  (repeat (first | with_reducible refine W.seq ?_ | with_reducible refine Ops.nil ?_ | with_reducible refine W.region ?_ | refine Ops.pu rfl rfl rfl ?_ | refine Ops.ar rfl rfl rfl (by omega) ?_ | refine Ops.yes rfl rfl rfl ?_ | refine Ops.no rfl rfl rfl rfl rfl ?_ | refine Ops.nu rfl rfl rfl rfl ?_ | with_reducible refine W.skip ?_ | with_reducible refine W.endb ?_ | with_reducible refine W.block ?_ | refine W.exit rfl ?_ | refine Ops.len rfl rfl rfl rfl rfl ?_ | refine Ops.flp rfl rfl rfl rfl rfl ?_ | refine Ops.max rfl rfl rfl rfl rfl ?_ | refine Ops.min rfl rfl rfl rfl rfl ?_ | refine Ops.eqB rfl rfl rfl rfl rfl rfl ?_ | refine Ops.neB rfl rfl rfl rfl rfl rfl ?_ | (apply Ops.ldB rfl rfl rfl rfl rfl; assumption; rfl)))
  refine W.cond rfl (fun hc => ?_) (fun hc => ?_)
  · have hlt : j < xss.length := by simp at hc; omega
    have hsj := hs j hlt
    obtain ⟨Aj, cj, ej⟩ := Sl.sl hsj
    have hp1 := hpre (j + 1) (by omega)
    rw [hstep j hlt, List.length_append] at hp1
    (repeat (first | with_reducible refine W.seq ?_ | with_reducible refine Ops.nil ?_ | with_reducible refine W.region ?_ | refine Ops.pu rfl rfl rfl ?_ | refine Ops.ar rfl rfl rfl (by omega) ?_ | refine Ops.yes rfl rfl rfl ?_ | refine Ops.no rfl rfl rfl rfl rfl ?_ | refine Ops.nu rfl rfl rfl rfl ?_ | with_reducible refine W.skip ?_ | with_reducible refine W.endb ?_ | with_reducible refine W.block ?_ | refine W.exit rfl ?_ | refine Ops.len rfl rfl rfl rfl rfl ?_ | refine Ops.flp rfl rfl rfl rfl rfl ?_ | refine Ops.max rfl rfl rfl rfl rfl ?_ | refine Ops.min rfl rfl rfl rfl rfl ?_ | refine Ops.eqB rfl rfl rfl rfl rfl rfl ?_ | refine Ops.neB rfl rfl rfl rfl rfl rfl ?_ | (apply Ops.ldB rfl rfl rfl rfl rfl; assumption; rfl)))
    refine Ops.idx rfl rfl rfl rfl rfl rfl rfl (by omega) (by omega) (Ops.ld rfl rfl rfl rfl rfl (hcell w1 j (Below.refl _ _) hlt) ?_)
    rw [ej]
    (repeat (first | with_reducible refine W.seq ?_ | with_reducible refine Ops.nil ?_ | with_reducible refine W.region ?_ | refine Ops.pu rfl rfl rfl ?_ | refine Ops.ar rfl rfl rfl (by omega) ?_ | refine Ops.yes rfl rfl rfl ?_ | refine Ops.no rfl rfl rfl rfl rfl ?_ | refine Ops.nu rfl rfl rfl rfl ?_ | with_reducible refine W.skip ?_ | with_reducible refine W.endb ?_ | with_reducible refine W.block ?_ | refine W.exit rfl ?_ | refine Ops.len rfl rfl rfl rfl rfl ?_ | refine Ops.flp rfl rfl rfl rfl rfl ?_ | refine Ops.max rfl rfl rfl rfl rfl ?_ | refine Ops.min rfl rfl rfl rfl rfl ?_ | refine Ops.eqB rfl rfl rfl rfl rfl rfl ?_ | refine Ops.neB rfl rfl rfl rfl rfl rfl ?_ | (apply Ops.ldB rfl rfl rfl rfl rfl; assumption; rfl)))
    refine W.cond rfl (fun hc => ?_) (fun hc => ?_)
    · simp at hc; omega
    (repeat (first | with_reducible refine W.seq ?_ | with_reducible refine Ops.nil ?_ | with_reducible refine W.region ?_ | refine Ops.pu rfl rfl rfl ?_ | refine Ops.ar rfl rfl rfl (by omega) ?_ | refine Ops.yes rfl rfl rfl ?_ | refine Ops.no rfl rfl rfl rfl rfl ?_ | refine Ops.nu rfl rfl rfl rfl ?_ | with_reducible refine W.skip ?_ | with_reducible refine W.endb ?_ | with_reducible refine W.block ?_ | refine W.exit rfl ?_ | refine Ops.len rfl rfl rfl rfl rfl ?_ | refine Ops.flp rfl rfl rfl rfl rfl ?_ | refine Ops.max rfl rfl rfl rfl rfl ?_ | refine Ops.min rfl rfl rfl rfl rfl ?_ | refine Ops.eqB rfl rfl rfl rfl rfl rfl ?_ | refine Ops.neB rfl rfl rfl rfl rfl rfl ?_ | (apply Ops.ldB rfl rfl rfl rfl rfl; assumption; rfl)))
    refine W.endl ⟨_, _, ⟨⟨j + 1, rfl, by omega, rfl, rfl⟩, by omega⟩, ⟨rfl, ?_, rfl, rfl, rfl, trivial⟩⟩
    rw [hstep j hlt, List.length_append]
    rfl
  · have hlt : j = xss.length := by simp at hc; omega
    subst hlt
    rw [List.take_length]
    (repeat (first | with_reducible refine W.seq ?_ | with_reducible refine Ops.nil ?_ | with_reducible refine W.region ?_ | refine Ops.pu rfl rfl rfl ?_ | refine Ops.ar rfl rfl rfl (by omega) ?_ | refine Ops.yes rfl rfl rfl ?_ | refine Ops.no rfl rfl rfl rfl rfl ?_ | refine Ops.nu rfl rfl rfl rfl ?_ | with_reducible refine W.skip ?_ | with_reducible refine W.endb ?_ | with_reducible refine W.block ?_ | refine W.exit rfl ?_ | refine Ops.len rfl rfl rfl rfl rfl ?_ | refine Ops.flp rfl rfl rfl rfl rfl ?_ | refine Ops.max rfl rfl rfl rfl rfl ?_ | refine Ops.min rfl rfl rfl rfl rfl ?_ | refine Ops.eqB rfl rfl rfl rfl rfl rfl ?_ | refine Ops.neB rfl rfl rfl rfl rfl rfl ?_ | (apply Ops.ldB rfl rfl rfl rfl rfl; assumption; rfl)))
    refine Ops.call rfl rfl rfl rfl rfl (grow_c _ (by omega) (by omega)) (fun v w2 hI => ?_)
    (repeat (first | with_reducible refine W.seq ?_ | with_reducible refine Ops.nil ?_ | with_reducible refine W.region ?_ | refine Ops.pu rfl rfl rfl ?_ | refine Ops.ar rfl rfl rfl (by omega) ?_ | refine Ops.yes rfl rfl rfl ?_ | refine Ops.no rfl rfl rfl rfl rfl ?_ | refine Ops.nu rfl rfl rfl rfl ?_ | with_reducible refine W.skip ?_ | with_reducible refine W.endb ?_ | with_reducible refine W.block ?_ | refine W.exit rfl ?_ | refine Ops.len rfl rfl rfl rfl rfl ?_ | refine Ops.flp rfl rfl rfl rfl rfl ?_ | refine Ops.max rfl rfl rfl rfl rfl ?_ | refine Ops.min rfl rfl rfl rfl rfl ?_ | refine Ops.eqB rfl rfl rfl rfl rfl rfl ?_ | refine Ops.neB rfl rfl rfl rfl rfl rfl ?_ | (apply Ops.ldB rfl rfl rfl rfl rfl; assumption; rfl)))
    refine W.loop (fun m ρ w2 => ∃ (j : Nat) (v : Value), m = xss.length - j ∧ j ≤ xss.length ∧ ρ = [(6, v), (25, .slice (some ⟨r, 0, none⟩) xss.length c), (26, .int .i64 xss.length), (27, .int .i64 j)] ∧ FInv w1 w2 v (xss.take j).flatten)
      ⟨_, _, ⟨0, v, rfl, Nat.zero_le _, rfl, hI⟩, (by repeat (first | exact trivial | refine And.intro rfl ?_))⟩ ?_
    rintro m ρ w2 ⟨j, v, rfl, hj, rfl, hI⟩
    (repeat (first | with_reducible refine W.seq ?_ | with_reducible refine Ops.nil ?_ | with_reducible refine W.region ?_ | refine Ops.pu rfl rfl rfl ?_ | refine Ops.ar rfl rfl rfl (by omega) ?_ | refine Ops.yes rfl rfl rfl ?_ | refine Ops.no rfl rfl rfl rfl rfl ?_ | refine Ops.nu rfl rfl rfl rfl ?_ | with_reducible refine W.skip ?_ | with_reducible refine W.endb ?_ | with_reducible refine W.block ?_ | refine W.exit rfl ?_ | refine Ops.len rfl rfl rfl rfl rfl ?_ | refine Ops.flp rfl rfl rfl rfl rfl ?_ | refine Ops.max rfl rfl rfl rfl rfl ?_ | refine Ops.min rfl rfl rfl rfl rfl ?_ | refine Ops.eqB rfl rfl rfl rfl rfl rfl ?_ | refine Ops.neB rfl rfl rfl rfl rfl rfl ?_ | (apply Ops.ldB rfl rfl rfl rfl rfl; assumption; rfl)))
    refine W.cond rfl (fun hc => ?_) (fun hc => ?_)
    · have hlt : j < xss.length := by simp at hc; omega
      have hp1 := hpre (j + 1) (by omega)
      rw [hstep j hlt, List.length_append] at hp1
      (repeat (first | with_reducible refine W.seq ?_ | with_reducible refine Ops.nil ?_ | with_reducible refine W.region ?_ | refine Ops.pu rfl rfl rfl ?_ | refine Ops.ar rfl rfl rfl (by omega) ?_ | refine Ops.yes rfl rfl rfl ?_ | refine Ops.no rfl rfl rfl rfl rfl ?_ | refine Ops.nu rfl rfl rfl rfl ?_ | with_reducible refine W.skip ?_ | with_reducible refine W.endb ?_ | with_reducible refine W.block ?_ | refine W.exit rfl ?_ | refine Ops.len rfl rfl rfl rfl rfl ?_ | refine Ops.flp rfl rfl rfl rfl rfl ?_ | refine Ops.max rfl rfl rfl rfl rfl ?_ | refine Ops.min rfl rfl rfl rfl rfl ?_ | refine Ops.eqB rfl rfl rfl rfl rfl rfl ?_ | refine Ops.neB rfl rfl rfl rfl rfl rfl ?_ | (apply Ops.ldB rfl rfl rfl rfl rfl; assumption; rfl)))
      refine Ops.idx rfl rfl rfl rfl rfl rfl rfl (by omega) (by omega) (Ops.ld rfl rfl rfl rfl rfl (hcell w2 j hI.bel hlt) ?_)
      (repeat (first | with_reducible refine W.seq ?_ | with_reducible refine Ops.nil ?_ | with_reducible refine W.region ?_ | refine Ops.pu rfl rfl rfl ?_ | refine Ops.ar rfl rfl rfl (by omega) ?_ | refine Ops.yes rfl rfl rfl ?_ | refine Ops.no rfl rfl rfl rfl rfl ?_ | refine Ops.nu rfl rfl rfl rfl ?_ | with_reducible refine W.skip ?_ | with_reducible refine W.endb ?_ | with_reducible refine W.block ?_ | refine W.exit rfl ?_ | refine Ops.len rfl rfl rfl rfl rfl ?_ | refine Ops.flp rfl rfl rfl rfl rfl ?_ | refine Ops.max rfl rfl rfl rfl rfl ?_ | refine Ops.min rfl rfl rfl rfl rfl ?_ | refine Ops.eqB rfl rfl rfl rfl rfl rfl ?_ | refine Ops.neB rfl rfl rfl rfl rfl rfl ?_ | (apply Ops.ldB rfl rfl rfl rfl rfl; assumption; rfl)))
      refine Ops.appS (enc := Value.int .i64) (z0 := (0 : Int)) rfl rfl rfl rfl rfl rfl rfl rfl rfl rfl hI.own (Sl.below (hs j hlt) hI.bel) (fun _ => rfl) (by omega) (fun v' w3 ho k3 hn3 => ?_)
      have hI3 : FInv w1 w3 v' ((xss.take j).flatten ++ xss.getD j []) :=
        ⟨Below.at_ hI.bel k3 (fun i hi => hI.ge i hi), by simpa using ho, fun i hi => by rcases hn3 i hi with e | e; exact hI.ge i e; have := hI.bel.size; omega⟩
      rw [← hstep j hlt] at hI3
      (repeat (first | with_reducible refine W.seq ?_ | with_reducible refine Ops.nil ?_ | with_reducible refine W.region ?_ | refine Ops.pu rfl rfl rfl ?_ | refine Ops.ar rfl rfl rfl (by omega) ?_ | refine Ops.yes rfl rfl rfl ?_ | refine Ops.no rfl rfl rfl rfl rfl ?_ | refine Ops.nu rfl rfl rfl rfl ?_ | with_reducible refine W.skip ?_ | with_reducible refine W.endb ?_ | with_reducible refine W.block ?_ | refine W.exit rfl ?_ | refine Ops.len rfl rfl rfl rfl rfl ?_ | refine Ops.flp rfl rfl rfl rfl rfl ?_ | refine Ops.max rfl rfl rfl rfl rfl ?_ | refine Ops.min rfl rfl rfl rfl rfl ?_ | refine Ops.eqB rfl rfl rfl rfl rfl rfl ?_ | refine Ops.neB rfl rfl rfl rfl rfl rfl ?_ | (apply Ops.ldB rfl rfl rfl rfl rfl; assumption; rfl)))
      exact W.endl ⟨_, _, ⟨⟨j + 1, v', rfl, by omega, rfl, hI3⟩, by omega⟩, (by repeat (first | exact trivial | refine And.intro rfl ?_))⟩
    · have hlt : j = xss.length := by simp at hc; omega
      subst hlt
      rw [List.take_length] at hI
      (repeat (first | with_reducible refine W.seq ?_ | with_reducible refine Ops.nil ?_ | with_reducible refine W.region ?_ | refine Ops.pu rfl rfl rfl ?_ | refine Ops.ar rfl rfl rfl (by omega) ?_ | refine Ops.yes rfl rfl rfl ?_ | refine Ops.no rfl rfl rfl rfl rfl ?_ | refine Ops.nu rfl rfl rfl rfl ?_ | with_reducible refine W.skip ?_ | with_reducible refine W.endb ?_ | with_reducible refine W.block ?_ | refine W.exit rfl ?_ | refine Ops.len rfl rfl rfl rfl rfl ?_ | refine Ops.flp rfl rfl rfl rfl rfl ?_ | refine Ops.max rfl rfl rfl rfl rfl ?_ | refine Ops.min rfl rfl rfl rfl rfl ?_ | refine Ops.eqB rfl rfl rfl rfl rfl rfl ?_ | refine Ops.neB rfl rfl rfl rfl rfl rfl ?_ | (apply Ops.ldB rfl rfl rfl rfl rfl; assumption; rfl)))
      exact W.fret rfl hI
end Go.Proofs.Ytdiljpnfochndaa
namespace Go.Proofs.Ytdiljpnfochndaa
open Go Go.RowKit Go.Proofs.Ytdiljpnfochndaa.VW
open Go.Proofs.Ytdiljpnfochndaa.HP (Nd kid wor leafB rd evB TF far Ef ed pickF joinF NE NeedP GoodE)
attribute [local irreducible] W Ops
def Lf (w0 w : World) (ov lv : Value) (xs : List Int) : Prop := w.ownsRow 0 3 1 lv xs.length (xs.map (Value.int .i64)) ∧ ∀ k, lv.ownBlock = some k → w0.heap.size ≤ k ∧ ov.ownBlock ≠ some k
theorem Lf.kp {w0 w w' : World} {ov lv : Value} {xs : List Int} {S : Nat → Prop} (h : Lf w0 w ov lv xs) (k : Kp S w w') (hs : ∀ i, S i → w.heap.size ≤ i ∨ ov.ownBlock = some i) : Lf w0 w' ov lv xs :=
  ⟨own_kp h.1 k (fun i hi e => by rcases hs i e with h1 | h1; have := (h.1.lt i hi).2; omega; exact (h.2 i hi).2 h1), h.2⟩
theorem Lf.nil (w0 w : World) (ov : Value) : Lf w0 w ov (.slice none 0 0) [] := ⟨World.ownsRow_nil w 0 3 1, fun k hk => by simp [Value.ownBlock] at hk⟩
theorem Lf.sl {w0 w : World} {ov lv : Value} {xs : List Int} (h : Lf w0 w ov lv xs) : SlI w lv xs := own_sl (z := (0 : Int)) h.1
def EffC (w0 w : World) (ov : Value) (cs : List Value) (es : List Ef) : Prop :=
  w.ownsRow 0 84 2 ov es.length cs ∧ ∀ i, i < es.length → cs.getD (i * 2) undef = .int .i64 (es.getD i (0, [])).1 ∧ Lf w0 w ov (cs.getD (i * 2 + 1) undef) (es.getD i (0, [])).2
structure Eff (w0 w : World) (ov : Value) (es : List Ef) : Prop where
  bel : Below w0.heap.size w0 w
  ge : ∀ k, ov.ownBlock = some k → w0.heap.size ≤ k
  out : ∃ cs, EffC w0 w ov cs es
theorem Eff.kp {w0 w w' : World} {ov : Value} {es : List Ef} {S : Nat → Prop} (h : Eff w0 w ov es) (k : Kp S w w') (hs : ∀ i, S i → w.heap.size ≤ i) : Eff w0 w' ov es := by
  obtain ⟨cs, h1, h2⟩ := h.out
  exact ⟨Below.at_ h.bel k (fun i hi => by have := h.bel.size; have := hs i hi; omega), h.ge, cs, own_kp h1 k (fun i hi e => by have := (h1.lt i hi).2; have := hs i e; omega), fun i hi => ⟨(h2 i hi).1, (h2 i hi).2.kp k (fun j hj => .inl (hs j hj))⟩⟩
theorem lgetD_set_eq {α : Type} {cs : List α} {j : Nat} {u z : α} (h : j < cs.length) : (cs.set j u).getD j z = u := by rw [List.getD_eq_getElem?_getD, List.getElem?_set_self h]; rfl
theorem lgetD_set_ne {α : Type} {cs : List α} {j i : Nat} {u z : α} (h : j ≠ i) : (cs.set j u).getD i z = cs.getD i z := by rw [List.getD_eq_getElem?_getD, List.getElem?_set_ne h, ← List.getD_eq_getElem?_getD]
theorem Eff.setA {w0 w w' : World} {ov lv : Value} {es : List Ef} {cs : List Value} {q : Nat} {m : Int} {xs : List Int} (h : Eff w0 w ov es) (hc : EffC w0 w ov cs es) (hq : q < es.length)
    (hown : w'.ownsRow 0 84 2 ov es.length ((cs.set (q * 2) (.int .i64 m)).set (q * 2 + 1) lv)) (k : Kp (fun b => ov.ownBlock = some b) w w') (hl : Lf w0 w ov lv xs) : Eff w0 w' ov (es.set q (m, xs)) := by
  have hcl : cs.length = es.length * 2 := hc.1.1
  refine ⟨Below.at_ h.bel k (fun i hi => h.ge i hi), h.ge, _, by rw [List.length_set]; exact hown, fun i hi => ?_⟩
  rw [List.length_set] at hi
  by_cases e : q = i
  · subst e
    rw [lgetD_set_eq hq, lgetD_set_ne (by omega), lgetD_set_eq (by omega), lgetD_set_eq (by simp; omega)]
    exact ⟨rfl, hl.kp k (fun j hj => .inr hj)⟩
  · rw [lgetD_set_ne e, lgetD_set_ne (by omega), lgetD_set_ne (by omega), lgetD_set_ne (by omega), lgetD_set_ne (by omega)]
    exact ⟨(hc.2 i hi).1, (hc.2 i hi).2.kp k (fun j hj => .inr hj)⟩
theorem Eff.setM {w0 w w' : World} {ov : Value} {es : List Ef} {cs : List Value} {q : Nat} {m : Int} (h : Eff w0 w ov es) (hc : EffC w0 w ov cs es) (hq : q < es.length)
    (hown : w'.ownsRow 0 84 2 ov es.length (cs.set (q * 2 + 0) (.int .i64 m))) (k : Kp (fun b => ov.ownBlock = some b) w w') : Eff w0 w' ov (es.set q (m, (es.getD q (0, [])).2)) := by
  have hcl : cs.length = es.length * 2 := hc.1.1
  refine ⟨Below.at_ h.bel k (fun i hi => h.ge i hi), h.ge, _, by rw [List.length_set]; exact hown, fun i hi => ?_⟩
  rw [List.length_set] at hi
  by_cases e : q = i
  · subst e
    rw [lgetD_set_eq hq, Nat.add_zero, lgetD_set_eq (by omega), lgetD_set_ne (by omega)]
    exact ⟨rfl, (hc.2 q hi).2.kp k (fun j hj => .inr hj)⟩
  · rw [lgetD_set_ne e, lgetD_set_ne (by omega), lgetD_set_ne (by omega)]
    exact ⟨(hc.2 i hi).1, (hc.2 i hi).2.kp k (fun j hj => .inr hj)⟩
theorem Eff.setL {w0 w w' : World} {ov lv : Value} {es : List Ef} {cs : List Value} {q : Nat} {xs : List Int} (h : Eff w0 w ov es) (hc : EffC w0 w ov cs es) (hq : q < es.length)
    (hown : w'.ownsRow 0 84 2 ov es.length (cs.set (q * 2 + 1) lv)) (k : Kp (fun b => ov.ownBlock = some b) w w') (hl : Lf w0 w ov lv xs) : Eff w0 w' ov (es.set q ((es.getD q (0, [])).1, xs)) := by
  have hcl : cs.length = es.length * 2 := hc.1.1
  refine ⟨Below.at_ h.bel k (fun i hi => h.ge i hi), h.ge, _, by rw [List.length_set]; exact hown, fun i hi => ?_⟩
  rw [List.length_set] at hi
  by_cases e : q = i
  · subst e
    rw [lgetD_set_eq hq, lgetD_set_eq (by omega), lgetD_set_ne (by omega)]
    exact ⟨(hc.2 q hi).1, hl.kp k (fun j hj => .inr hj)⟩
  · rw [lgetD_set_ne e, lgetD_set_ne (by omega), lgetD_set_ne (by omega)]
    exact ⟨(hc.2 i hi).1, (hc.2 i hi).2.kp k (fun j hj => .inr hj)⟩
theorem Lf.oneCell {w0 w : World} {ov lv : Value} {xs : List Int} (h : Lf w0 w ov lv xs) : lv.oneCell' = true := by
  obtain ⟨A, c, rfl⟩ := Sl.sl h.sl
  rfl
/-- What the nodes from m on hold. -/
structure NInvE (l : List Nd) (dep : List Int) (mx : Bool) (lf : Int → Int) (m : Nat) (es : List Ef) : Prop where
  len : es.length = l.length
  eq : ∀ j : Nat, m ≤ j → j < l.length → es.getD j (0, []) = NE l dep mx lf es j
  good : ∀ j : Nat, m ≤ j → j < l.length → GoodE l j (es.getD j (0, [])).2
  bd : ∀ j : Nat, m ≤ j → j < l.length → 0 ≤ (es.getD j (0, [])).1 ∧ (es.getD j (0, [])).1 ≤ far
  zero : ∀ j : Nat, j < m → es.getD j (0, []) = (0, [])
theorem NInvE.kids {l : List Nd} {dep : List Int} {mx : Bool} {lf : Int → Int} {m : Nat} {es : List Ef} (h : NInvE l dep mx lf m es) (hT : TF l dep) {q : Nat} (hq : q < l.length) (hm : m ≤ q + 1) : (∀ c ∈ kid l q, GoodE l c (ed es c).2) ∧ ∀ c ∈ kid l q, 0 ≤ (ed es c).1 ∧ (ed es c).1 ≤ far := by
  refine ⟨fun c hc => ?_, fun c hc => ?_⟩
  · obtain ⟨h1, h2⟩ := Go.Proofs.Ytdiljpnfochndaa.HP.mem_kid hT hq hc
    have := h.good c.toNat (by omega) (by omega)
    rw [show ((c.toNat : Nat) : Int) = c by omega] at this
    exact this
  · obtain ⟨h1, h2⟩ := Go.Proofs.Ytdiljpnfochndaa.HP.mem_kid hT hq hc
    exact h.bd c.toNat (by omega) (by omega)
theorem NInvE.set {l : List Nd} {dep : List Int} {mx : Bool} {lf : Int → Int} {q : Nat} {es es' : List Ef} {x : Ef} (h : NInvE l dep mx lf (q + 1) es) (hT : TF l dep) (hq : q < l.length) (hlf : leafB l q = true → 0 ≤ lf q ∧ lf q ≤ far) (hx : x = NE l dep mx lf es q) (he : es' = es.set q x) : NInvE l dep mx lf q es' := by
  subst he
  obtain ⟨hk1, hk2⟩ := h.kids hT hq (Nat.le_refl _)
  have hlen := h.len
  have hc : ∀ j : Nat, q ≤ j → j < l.length → NE l dep mx lf (es.set q x) j = NE l dep mx lf es j := fun j h1 h2 => Go.Proofs.Ytdiljpnfochndaa.HP.NE_congr hT h2 fun i hi hil => lgetD_set_ne (by omega)
  refine ⟨by simpa using hlen, ?_, ?_, ?_, ?_⟩
  · intro j h1 h2
    rw [hc j h1 h2]
    by_cases e : q = j
    · subst e; rw [lgetD_set_eq (by omega)]; exact hx
    · rw [lgetD_set_ne e]; exact h.eq j (by omega) h2
  · intro j h1 h2
    by_cases e : q = j
    · subst e; rw [lgetD_set_eq (by omega), hx]; exact Go.Proofs.Ytdiljpnfochndaa.HP.NE_good hT hq hk1
    · rw [lgetD_set_ne e]; exact h.good j (by omega) h2
  · intro j h1 h2
    by_cases e : q = j
    · subst e; rw [lgetD_set_eq (by omega), hx]; exact Go.Proofs.Ytdiljpnfochndaa.HP.NE_bd hlf hk2
    · rw [lgetD_set_ne e]; exact h.bd j (by omega) h2
  · intro j h1
    rw [lgetD_set_ne (by omega)]
    exact h.zero j (by omega)
theorem Eff.frame {w0 w w' : World} {ov : Value} {es : List Ef} {b t : Nat} {cs : Array Value} (h : Eff w0 w ov es) (hb : Blk w b cs t) (hlt : b < w0.heap.size) (k : Kp (fun b => ov.ownBlock = some b) w w') : Blk w' b cs t := hb.kp k (fun e => by have := h.ge b e; omega)
theorem mk2 {α : Type} (z0 z1 : α) (n i : Nat) (h : i < n * 2) : True := trivial
end Go.Proofs.Ytdiljpnfochndaa
namespace Go.Proofs.Ytdiljpnfochndaa
open Go Go.RowKit Go.Proofs.Ytdiljpnfochndaa.VW
open Go.Proofs.Ytdiljpnfochndaa.HP (Nd kid wor leafB rd evB TF far Ef ed pickF joinF NE NeedP GoodE)
attribute [local irreducible] W Ops
theorem join_bd {es : List Ef} : ∀ (cs : List Int), (∀ c ∈ cs, 0 ≤ (ed es c).1 ∧ (ed es c).1 ≤ far) → ∀ a : Ef, 0 ≤ a.1 ∧ a.1 ≤ far → 0 ≤ (cs.foldl (joinF es) a).1 ∧ (cs.foldl (joinF es) a).1 ≤ far := by
  intro cs
  induction cs with
  | nil => intro _ a ha; exact ha
  | cons c r ih =>
    intro hc a ha
    refine ih (fun c h => hc c (by simp [h])) _ ?_
    have := hc c (by simp)
    simp only [joinF]
    omega
theorem own_cell {w : World} {g cap e sz m : Nat} {cs : List Value} (hown : w.ownsRow 0 e sz (.slice (some ⟨g, 0, none⟩) m cap) m cs) {a b : Nat} (h : a + b < m * sz) (hm : 0 < m) : w.cell? (((⟨g, 0, none⟩ : Addr).add a).add b) = some (cs.getD (a + b) undef) := by
  obtain ⟨g', cap', he, hc⟩ := own_at hown hm
  simp only [Value.slice.injEq, Option.some.injEq, Addr.mk.injEq, and_true, true_and] at he
  obtain ⟨rfl, rfl⟩ := he
  rw [add_lit, add_lit, Nat.zero_add]
  exact hc _ h
theorem Lf.new {w0 w w' : World} {ov v : Value} {ys : List Int} (h : FInv w w' v ys) (hw : w0.heap.size ≤ w.heap.size) (ho : ∀ k, ov.ownBlock = some k → k < w.heap.size) : Lf w0 w' ov v ys :=
  ⟨h.own, fun k hk => ⟨Nat.le_trans hw (h.ge k hk), fun e => by have := ho k e; have := h.ge k hk; omega⟩⟩
set_option maxRecDepth 100000 in
theorem need_c {w : World} {g : Nat} {l : List Nd} {dep : List Int} {fv : Value} {lf : Int → Int} {mx : Bool} (hG : Game w g l dep) (hT : TF l dep) (hf : Clo w fv lf (fun i => 0 ≤ i ∧ i < l.length ∧ leafB l i = true))
    (hlf : ∀ i : Nat, leafB l i = true → 0 ≤ lf i ∧ lf i ≤ far) :
    Calls Try.prog 71 #[.pointer (some ⟨g, 0, none⟩), .bool mx, fv] w (Ret fun r w' => Below w.heap.size w w' ∧ ∃ es lv, NeedP l dep mx lf es ∧ GoodE l 0 (es.getD 0 (0, [])).2 ∧ r = .agg #[.int .i64 (es.getD 0 (0, [])).1, lv] ∧ FInv w w' lv (es.getD 0 (0, [])).2) := by
  obtain ⟨tv, dv, hB, hTr, hD⟩ := hG.out
  obtain ⟨At, ct, rfl⟩ := hTr.sl
  obtain ⟨f, first, cap, rfl, hfm, hfc⟩ := hf.out
  have hn := hT.n60
  have hn1 := hT.n1
  refine calls_W (vs := [_, _, _]) Try.func71 rfl (by kernel_rfl) rfl ?_
  refine W.seq (W.region (Ops.alloc rfl rfl rfl rfl (fun w1 rb hM => ?_)))
  have hBw1 := hB.kp hM.kp (fun e => e)
  have hb01 : Below w.heap.size w w1 := hM.kp.below (Nat.le_refl _) (fun _ _ e => e)
  have hrb1 : Blk w1 rb #[.int .i64 0, .slice none 0 0] 84 := hM.at_
  have hrbe := hM.r_eq
  have hM1 := hM.size
  (repeat (first | with_reducible refine W.seq ?_ | with_reducible refine Ops.nil ?_ | with_reducible refine W.region ?_ | refine Ops.pu rfl rfl rfl ?_ | refine Ops.ar rfl rfl rfl (by omega) ?_ | refine Ops.yes rfl rfl rfl ?_ | refine Ops.no rfl rfl rfl rfl rfl ?_ | refine Ops.nu rfl rfl rfl rfl ?_ | with_reducible refine W.skip ?_ | with_reducible refine W.endb ?_ | with_reducible refine W.block ?_ | refine W.exit rfl ?_ | refine Ops.len rfl rfl rfl rfl rfl ?_ | refine Ops.flp rfl rfl rfl rfl rfl ?_ | refine Ops.max rfl rfl rfl rfl rfl ?_ | refine Ops.min rfl rfl rfl rfl rfl ?_ | refine Ops.eqB rfl rfl rfl rfl rfl rfl ?_ | refine Ops.neB rfl rfl rfl rfl rfl rfl ?_ | (apply Ops.ldB rfl rfl rfl rfl rfl; assumption; rfl)))
  refine Ops.mkS rfl rfl rfl rfl rfl rfl rfl rfl rfl (by omega) (by simp; omega) (fun w2 dr hdr k2 hdl hown => ?_)
  simp only [Int.toNat_natCast] at hown ⊢
  have hgz : ∀ i, i < l.length → (madeCells (Value.agg #[.int .i64 0, .slice none 0 0]).cells (l.length * 2)).toList.getD (i * 2) undef = .int .i64 0 ∧ (madeCells (Value.agg #[.int .i64 0, .slice none 0 0]).cells (l.length * 2)).toList.getD (i * 2 + 1) undef = .slice none 0 0 := by
    intro i hi
    have h0 : i * 2 < l.length * 2 := by omega
    have h1 : i * 2 + 1 < l.length * 2 := by omega
    simp [madeCells, List.getD_eq_getElem?_getD, Value.cells, h0, h1, show (i * 2) % 2 = 0 by omega, show (i * 2 + 1) % 2 = 1 by omega]
  have hE0 : Eff w1 w2 (.slice (some ⟨dr, 0, none⟩) l.length l.length) (List.replicate l.length (0, [])) := by
    refine ⟨k2.below (Nat.le_refl _) (fun _ _ e => e), fun k hk => ?_, _, by simpa using hown, fun i hi => ?_⟩
    · simp [Value.ownBlock] at hk; omega
    · rw [List.length_replicate] at hi
      have hz : (List.replicate l.length ((0, []) : Ef)).getD i (0, []) = (0, []) := by rw [List.getD_eq_getElem?_getD, List.getElem?_replicate]; split <;> rfl
      rw [hz]
      refine ⟨(hgz i hi).1, ?_⟩
      have e2 := (hgz i hi).2
      exact (congrArg (fun v => Lf w1 w2 (.slice (some ⟨dr, 0, none⟩) l.length l.length) v []) e2).mpr (Lf.nil _ _ _)
  have hrb2 := hrb1.kp k2 (fun e => e)
  have hN0 : NInvE l dep mx lf l.length (List.replicate l.length (0, [])) := by
    refine ⟨by simp, fun j h1 h2 => by omega, fun j h1 h2 => by omega, fun j h1 h2 => by omega, fun j _ => ?_⟩
    rw [List.getD_eq_getElem?_getD, List.getElem?_replicate]; split <;> rfl
  have hB2 := hBw1.kp k2 (fun e => e)
  (repeat (first | with_reducible refine W.seq ?_ | with_reducible refine Ops.nil ?_ | with_reducible refine W.region ?_ | refine Ops.pu rfl rfl rfl ?_ | refine Ops.ar rfl rfl rfl (by omega) ?_ | refine Ops.yes rfl rfl rfl ?_ | refine Ops.no rfl rfl rfl rfl rfl ?_ | refine Ops.nu rfl rfl rfl rfl ?_ | with_reducible refine W.skip ?_ | with_reducible refine W.endb ?_ | with_reducible refine W.block ?_ | refine W.exit rfl ?_ | refine Ops.len rfl rfl rfl rfl rfl ?_ | refine Ops.flp rfl rfl rfl rfl rfl ?_ | refine Ops.max rfl rfl rfl rfl rfl ?_ | refine Ops.min rfl rfl rfl rfl rfl ?_ | refine Ops.eqB rfl rfl rfl rfl rfl rfl ?_ | refine Ops.neB rfl rfl rfl rfl rfl rfl ?_ | (apply Ops.ldB rfl rfl rfl rfl rfl; assumption; rfl)))
  clear hgz hown
  refine W.loop (fun m ρ w3 => ∃ (es : List Ef), m ≤ l.length ∧ ρ = [(0, .pointer (some ⟨g, 0, none⟩)), (1, .bool mx), (2, .func (.func f) first.toArray cap.toArray), (6, .pointer (some ⟨rb, 0, none⟩)), (7, .slice (some ⟨dr, 0, none⟩) l.length l.length), (8, .int .i64 ((m : Int) - 1))] ∧
      Eff w1 w3 (.slice (some ⟨dr, 0, none⟩) l.length l.length) es ∧ NInvE l dep mx lf m es ∧ Blk w3 rb #[.int .i64 0, .slice none 0 0] 84)
    ⟨l.length, _, ⟨_, Nat.le_refl _, rfl, hE0, hN0, hrb2⟩, (by repeat (first | exact trivial | refine And.intro rfl ?_))⟩ ?_
  clear hE0 hN0 hrb2 hB2 k2
  rintro m ρ w3 ⟨es, hm, rfl, hE, hN, hrb⟩
  have hb3 : Below w.heap.size w w3 := hb01.trans (hE.bel.mono hb01.size)
  have hG3 := hG.below hb3
  obtain ⟨tv3, dv3, hB3, hTr3, hD3⟩ := hG3.out
  have hel := hN.len
  (repeat (first | with_reducible refine W.seq ?_ | with_reducible refine Ops.nil ?_ | with_reducible refine W.region ?_ | refine Ops.pu rfl rfl rfl ?_ | refine Ops.ar rfl rfl rfl (by omega) ?_ | refine Ops.yes rfl rfl rfl ?_ | refine Ops.no rfl rfl rfl rfl rfl ?_ | refine Ops.nu rfl rfl rfl rfl ?_ | with_reducible refine W.skip ?_ | with_reducible refine W.endb ?_ | with_reducible refine W.block ?_ | refine W.exit rfl ?_ | refine Ops.len rfl rfl rfl rfl rfl ?_ | refine Ops.flp rfl rfl rfl rfl rfl ?_ | refine Ops.max rfl rfl rfl rfl rfl ?_ | refine Ops.min rfl rfl rfl rfl rfl ?_ | refine Ops.eqB rfl rfl rfl rfl rfl rfl ?_ | refine Ops.neB rfl rfl rfl rfl rfl rfl ?_ | (apply Ops.ldB rfl rfl rfl rfl rfl; assumption; rfl)))
  refine W.cond rfl (fun hc => ?_) (fun hc => ?_)
  · obtain ⟨q, rfl⟩ : ∃ q, m = q + 1 := ⟨m - 1, by simp at hc; omega⟩
    have e1 : ((q + 1 : Nat) : Int) - 1 = q := by omega
    rw [e1]
    have hql : q < l.length := by omega
    obtain ⟨hkg, hkb⟩ := hN.kids hT hql (Nat.le_refl _)
    (repeat (first | with_reducible refine W.seq ?_ | with_reducible refine Ops.nil ?_ | with_reducible refine W.region ?_ | refine Ops.pu rfl rfl rfl ?_ | refine Ops.ar rfl rfl rfl (by omega) ?_ | refine Ops.yes rfl rfl rfl ?_ | refine Ops.no rfl rfl rfl rfl rfl ?_ | refine Ops.nu rfl rfl rfl rfl ?_ | with_reducible refine W.skip ?_ | with_reducible refine W.endb ?_ | with_reducible refine W.block ?_ | refine W.exit rfl ?_ | refine Ops.len rfl rfl rfl rfl rfl ?_ | refine Ops.flp rfl rfl rfl rfl rfl ?_ | refine Ops.max rfl rfl rfl rfl rfl ?_ | refine Ops.min rfl rfl rfl rfl rfl ?_ | refine Ops.eqB rfl rfl rfl rfl rfl rfl ?_ | refine Ops.neB rfl rfl rfl rfl rfl rfl ?_ | (apply Ops.ldB rfl rfl rfl rfl rfl; assumption; rfl)))
    refine Ops.callS rfl rfl rfl rfl rfl (isLeaf_c hG3 q (by omega) (by omega)) ?_
    (repeat (first | with_reducible refine W.seq ?_ | with_reducible refine Ops.nil ?_ | with_reducible refine W.region ?_ | refine Ops.pu rfl rfl rfl ?_ | refine Ops.ar rfl rfl rfl (by omega) ?_ | refine Ops.yes rfl rfl rfl ?_ | refine Ops.no rfl rfl rfl rfl rfl ?_ | refine Ops.nu rfl rfl rfl rfl ?_ | with_reducible refine W.skip ?_ | with_reducible refine W.endb ?_ | with_reducible refine W.block ?_ | refine W.exit rfl ?_ | refine Ops.len rfl rfl rfl rfl rfl ?_ | refine Ops.flp rfl rfl rfl rfl rfl ?_ | refine Ops.max rfl rfl rfl rfl rfl ?_ | refine Ops.min rfl rfl rfl rfl rfl ?_ | refine Ops.eqB rfl rfl rfl rfl rfl rfl ?_ | refine Ops.neB rfl rfl rfl rfl rfl rfl ?_ | (apply Ops.ldB rfl rfl rfl rfl rfl; assumption; rfl)))
    refine W.cond rfl (fun hlf1 => ?_) (fun hlf1 => ?_)
    · (repeat (first | with_reducible refine W.seq ?_ | with_reducible refine Ops.nil ?_ | with_reducible refine W.region ?_ | refine Ops.pu rfl rfl rfl ?_ | refine Ops.ar rfl rfl rfl (by omega) ?_ | refine Ops.yes rfl rfl rfl ?_ | refine Ops.no rfl rfl rfl rfl rfl ?_ | refine Ops.nu rfl rfl rfl rfl ?_ | with_reducible refine W.skip ?_ | with_reducible refine W.endb ?_ | with_reducible refine W.block ?_ | refine W.exit rfl ?_ | refine Ops.len rfl rfl rfl rfl rfl ?_ | refine Ops.flp rfl rfl rfl rfl rfl ?_ | refine Ops.max rfl rfl rfl rfl rfl ?_ | refine Ops.min rfl rfl rfl rfl rfl ?_ | refine Ops.eqB rfl rfl rfl rfl rfl rfl ?_ | refine Ops.neB rfl rfl rfl rfl rfl rfl ?_ | (apply Ops.ldB rfl rfl rfl rfl rfl; assumption; rfl)))
      refine Ops.call rfl rfl rfl rfl hfm (hfc q w3 hb3 ⟨by omega, by omega, hlf1⟩) (fun v w4 hR => ?_)
      obtain ⟨rfl, hb4⟩ := hR
      have k4 := Kp.of_below (S := fun _ => False) hb4
      have hE4 := hE.kp k4 (fun _ e => e.elim)
      have hrb4 := hrb.kp k4 (fun e => e)
      (repeat (first | with_reducible refine W.seq ?_ | with_reducible refine Ops.nil ?_ | with_reducible refine W.region ?_ | refine Ops.pu rfl rfl rfl ?_ | refine Ops.ar rfl rfl rfl (by omega) ?_ | refine Ops.yes rfl rfl rfl ?_ | refine Ops.no rfl rfl rfl rfl rfl ?_ | refine Ops.nu rfl rfl rfl rfl ?_ | with_reducible refine W.skip ?_ | with_reducible refine W.endb ?_ | with_reducible refine W.block ?_ | refine W.exit rfl ?_ | refine Ops.len rfl rfl rfl rfl rfl ?_ | refine Ops.flp rfl rfl rfl rfl rfl ?_ | refine Ops.max rfl rfl rfl rfl rfl ?_ | refine Ops.min rfl rfl rfl rfl rfl ?_ | refine Ops.eqB rfl rfl rfl rfl rfl rfl ?_ | refine Ops.neB rfl rfl rfl rfl rfl rfl ?_ | (apply Ops.ldB rfl rfl rfl rfl rfl; assumption; rfl)))
      refine Ops.bs1 rfl rfl rfl rfl rfl rfl rfl rfl rfl (fun w5 r5 hM5 => ?_)
      have hE5 := hE4.kp hM5.kp (fun _ e => e.elim)
      have hrb5 := hrb4.kp hM5.kp (fun e => e)
      have hone := own_one hM5
      have hdlt : dr < w4.heap.size := by obtain ⟨cs, hcs, _⟩ := hE4.out; exact (hcs.lt dr rfl).2
      have hL5 : Lf w1 w5 (.slice (some ⟨dr, 0, none⟩) l.length l.length) (.slice (some ⟨r5, 0, none⟩) 1 1) [(q : Int)] := by
        refine ⟨hone, fun k hk => ?_⟩
        have := hM5.r_eq
        have := hE4.bel.size
        simp [Value.ownBlock] at hk ⊢
        omega
      refine Ops.bld2 rfl rfl rfl rfl rfl rfl rfl rfl rfl ?_
      obtain ⟨cs, hcs⟩ := hE5.out
      refine Ops.wrOA rfl rfl rfl rfl rfl rfl rfl rfl rfl rfl rfl rfl (by simp) rfl rfl hcs.1 (by omega) (by omega) (fun w6 p hown6 k6 => ?_)
      have hE6 := hE5.setA hcs (by omega) hown6 k6 hL5
      have hrb6 := hE5.frame hrb5 (by omega) k6
      have hN6 := hN.set hT hql (hlf q) (x := (lf q, [(q : Int)])) (by simp [NE, hlf1]) rfl
      (repeat (first | with_reducible refine W.seq ?_ | with_reducible refine Ops.nil ?_ | with_reducible refine W.region ?_ | refine Ops.pu rfl rfl rfl ?_ | refine Ops.ar rfl rfl rfl (by omega) ?_ | refine Ops.yes rfl rfl rfl ?_ | refine Ops.no rfl rfl rfl rfl rfl ?_ | refine Ops.nu rfl rfl rfl rfl ?_ | with_reducible refine W.skip ?_ | with_reducible refine W.endb ?_ | with_reducible refine W.block ?_ | refine W.exit rfl ?_ | refine Ops.len rfl rfl rfl rfl rfl ?_ | refine Ops.flp rfl rfl rfl rfl rfl ?_ | refine Ops.max rfl rfl rfl rfl rfl ?_ | refine Ops.min rfl rfl rfl rfl rfl ?_ | refine Ops.eqB rfl rfl rfl rfl rfl rfl ?_ | refine Ops.neB rfl rfl rfl rfl rfl rfl ?_ | (apply Ops.ldB rfl rfl rfl rfl rfl; assumption; rfl)))
      exact W.endl ⟨q, _, ⟨⟨_, by omega, rfl, hE6, hN6, hrb6⟩, by omega⟩, (by repeat (first | exact trivial | refine And.intro rfl ?_))⟩
    · have hkl := hT.klen q hql
      (repeat (first | with_reducible refine W.seq ?_ | with_reducible refine Ops.nil ?_ | with_reducible refine W.region ?_ | refine Ops.pu rfl rfl rfl ?_ | refine Ops.ar rfl rfl rfl (by omega) ?_ | refine Ops.yes rfl rfl rfl ?_ | refine Ops.no rfl rfl rfl rfl rfl ?_ | refine Ops.nu rfl rfl rfl rfl ?_ | with_reducible refine W.skip ?_ | with_reducible refine W.endb ?_ | with_reducible refine W.block ?_ | refine W.exit rfl ?_ | refine Ops.len rfl rfl rfl rfl rfl ?_ | refine Ops.flp rfl rfl rfl rfl rfl ?_ | refine Ops.max rfl rfl rfl rfl rfl ?_ | refine Ops.min rfl rfl rfl rfl rfl ?_ | refine Ops.eqB rfl rfl rfl rfl rfl rfl ?_ | refine Ops.neB rfl rfl rfl rfl rfl rfl ?_ | (apply Ops.ldB rfl rfl rfl rfl rfl; assumption; rfl)))
      refine Ops.callS rfl rfl rfl rfl rfl (atMax_c hG3 q (by omega) (by have := hT.len; omega)) ?_
      (repeat (first | with_reducible refine W.seq ?_ | with_reducible refine Ops.nil ?_ | with_reducible refine W.region ?_ | refine Ops.pu rfl rfl rfl ?_ | refine Ops.ar rfl rfl rfl (by omega) ?_ | refine Ops.yes rfl rfl rfl ?_ | refine Ops.no rfl rfl rfl rfl rfl ?_ | refine Ops.nu rfl rfl rfl rfl ?_ | with_reducible refine W.skip ?_ | with_reducible refine W.endb ?_ | with_reducible refine W.block ?_ | refine W.exit rfl ?_ | refine Ops.len rfl rfl rfl rfl rfl ?_ | refine Ops.flp rfl rfl rfl rfl rfl ?_ | refine Ops.max rfl rfl rfl rfl rfl ?_ | refine Ops.min rfl rfl rfl rfl rfl ?_ | refine Ops.eqB rfl rfl rfl rfl rfl rfl ?_ | refine Ops.neB rfl rfl rfl rfl rfl rfl ?_ | (apply Ops.ldB rfl rfl rfl rfl rfl; assumption; rfl)))
      have hrbe' : rb < w1.heap.size := by omega
      have hnl : ¬ leafB l q = true := by simp [hlf1]
      refine W.cond rfl (fun hev => ?_) (fun hev => ?_)
      · -- one child is enough
        obtain ⟨cs, hcs⟩ := hE.out
        (repeat (first | with_reducible refine W.seq ?_ | with_reducible refine Ops.nil ?_ | with_reducible refine W.region ?_ | refine Ops.pu rfl rfl rfl ?_ | refine Ops.ar rfl rfl rfl (by omega) ?_ | refine Ops.yes rfl rfl rfl ?_ | refine Ops.no rfl rfl rfl rfl rfl ?_ | refine Ops.nu rfl rfl rfl rfl ?_ | with_reducible refine W.skip ?_ | with_reducible refine W.endb ?_ | with_reducible refine W.block ?_ | refine W.exit rfl ?_ | refine Ops.len rfl rfl rfl rfl rfl ?_ | refine Ops.flp rfl rfl rfl rfl rfl ?_ | refine Ops.max rfl rfl rfl rfl rfl ?_ | refine Ops.min rfl rfl rfl rfl rfl ?_ | refine Ops.eqB rfl rfl rfl rfl rfl rfl ?_ | refine Ops.neB rfl rfl rfl rfl rfl rfl ?_ | (apply Ops.ldB rfl rfl rfl rfl rfl; assumption; rfl)))
        refine Ops.wrOF rfl rfl rfl rfl rfl rfl rfl rfl rfl rfl rfl rfl rfl rfl rfl rfl rfl (by simp) (by simp) rfl hcs.1 (by omega) (by omega) (fun w4 p q' hown4 k4 => ?_)
        have hE4 := hE.setM hcs (by omega) hown4 k4
        have hrb4 := hE.frame hrb hrbe' k4
        simp only [Int.toNat_natCast] at hE4
        rw [hN.zero q (by omega)] at hE4
        have hb4 : Below w.heap.size w w4 := hb01.trans (hE4.bel.mono hb01.size)
        have hB4 := hB.kp (Kp.of_below (S := fun _ => False) hb4) (fun e => e)
        (repeat (first | with_reducible refine W.seq ?_ | with_reducible refine Ops.nil ?_ | with_reducible refine W.region ?_ | refine Ops.pu rfl rfl rfl ?_ | refine Ops.ar rfl rfl rfl (by omega) ?_ | refine Ops.yes rfl rfl rfl ?_ | refine Ops.no rfl rfl rfl rfl rfl ?_ | refine Ops.nu rfl rfl rfl rfl ?_ | with_reducible refine W.skip ?_ | with_reducible refine W.endb ?_ | with_reducible refine W.block ?_ | refine W.exit rfl ?_ | refine Ops.len rfl rfl rfl rfl rfl ?_ | refine Ops.flp rfl rfl rfl rfl rfl ?_ | refine Ops.max rfl rfl rfl rfl rfl ?_ | refine Ops.min rfl rfl rfl rfl rfl ?_ | refine Ops.eqB rfl rfl rfl rfl rfl rfl ?_ | refine Ops.neB rfl rfl rfl rfl rfl rfl ?_ | (apply Ops.ldB rfl rfl rfl rfl rfl; assumption; rfl)))
        refine Ops.rdK rfl rfl rfl rfl rfl rfl rfl rfl rfl rfl rfl rfl rfl rfl rfl hTr hb4 (by omega) (by omega) (fun cv p q' hcv => ?_)
        obtain ⟨Ac, cc, rfl⟩ := Sl.sl hcv
        (repeat (first | with_reducible refine W.seq ?_ | with_reducible refine Ops.nil ?_ | with_reducible refine W.region ?_ | refine Ops.pu rfl rfl rfl ?_ | refine Ops.ar rfl rfl rfl (by omega) ?_ | refine Ops.yes rfl rfl rfl ?_ | refine Ops.no rfl rfl rfl rfl rfl ?_ | refine Ops.nu rfl rfl rfl rfl ?_ | with_reducible refine W.skip ?_ | with_reducible refine W.endb ?_ | with_reducible refine W.block ?_ | refine W.exit rfl ?_ | refine Ops.len rfl rfl rfl rfl rfl ?_ | refine Ops.flp rfl rfl rfl rfl rfl ?_ | refine Ops.max rfl rfl rfl rfl rfl ?_ | refine Ops.min rfl rfl rfl rfl rfl ?_ | refine Ops.eqB rfl rfl rfl rfl rfl rfl ?_ | refine Ops.neB rfl rfl rfl rfl rfl rfl ?_ | (apply Ops.ldB rfl rfl rfl rfl rfl; assumption; rfl)))
        refine W.loop (fun m ρ w5 => ∃ (j : Nat), m = (kid l q).length - j ∧ j ≤ (kid l q).length ∧ ρ = [(0, .pointer (some ⟨g, 0, none⟩)), (1, .bool mx), (2, .func (.func f) first.toArray cap.toArray), (6, .pointer (some ⟨rb, 0, none⟩)), (7, .slice (some ⟨dr, 0, none⟩) l.length l.length), (8, .int .i64 q), (105, .slice Ac (kid l q).length cc), (106, .int .i64 (kid l q).length), (107, .int .i64 j)] ∧
            Eff w1 w5 (.slice (some ⟨dr, 0, none⟩) l.length l.length) (es.set q (((kid l q).take j).foldl (pickF es) (far, []))) ∧ Blk w5 rb #[.int .i64 0, .slice none 0 0] 84)
          ⟨_, _, ⟨0, rfl, Nat.zero_le _, rfl, hE4, hrb4⟩, (by repeat (first | exact trivial | refine And.intro rfl ?_))⟩ ?_
        rintro m ρ w5 ⟨j, rfl, hj, rfl, hE5, hrb5⟩
        (repeat (first | with_reducible refine W.seq ?_ | with_reducible refine Ops.nil ?_ | with_reducible refine W.region ?_ | refine Ops.pu rfl rfl rfl ?_ | refine Ops.ar rfl rfl rfl (by omega) ?_ | refine Ops.yes rfl rfl rfl ?_ | refine Ops.no rfl rfl rfl rfl rfl ?_ | refine Ops.nu rfl rfl rfl rfl ?_ | with_reducible refine W.skip ?_ | with_reducible refine W.endb ?_ | with_reducible refine W.block ?_ | refine W.exit rfl ?_ | refine Ops.len rfl rfl rfl rfl rfl ?_ | refine Ops.flp rfl rfl rfl rfl rfl ?_ | refine Ops.max rfl rfl rfl rfl rfl ?_ | refine Ops.min rfl rfl rfl rfl rfl ?_ | refine Ops.eqB rfl rfl rfl rfl rfl rfl ?_ | refine Ops.neB rfl rfl rfl rfl rfl rfl ?_ | (apply Ops.ldB rfl rfl rfl rfl rfl; assumption; rfl)))
        refine W.cond rfl (fun hc => ?_) (fun hc => ?_)
        · have hlt : j < (kid l q).length := by simp at hc; omega
          have hkin := hT.kin q j hql hlt
          simp only [Go.Proofs.Ytdiljpnfochndaa.HP.k_] at hkin
          have htk : ((kid l q).take (j + 1)).foldl (pickF es) (far, []) = pickF es (((kid l q).take j).foldl (pickF es) (far, [])) ((kid l q).getD j 0) := by
            rw [Go.Proofs.Ytdiljpnfochndaa.HP.take_snoc _ _ hlt, List.foldl_append]; rfl
          (repeat (first | with_reducible refine W.seq ?_ | with_reducible refine Ops.nil ?_ | with_reducible refine W.region ?_ | refine Ops.pu rfl rfl rfl ?_ | refine Ops.ar rfl rfl rfl (by omega) ?_ | refine Ops.yes rfl rfl rfl ?_ | refine Ops.no rfl rfl rfl rfl rfl ?_ | refine Ops.nu rfl rfl rfl rfl ?_ | with_reducible refine W.skip ?_ | with_reducible refine W.endb ?_ | with_reducible refine W.block ?_ | refine W.exit rfl ?_ | refine Ops.len rfl rfl rfl rfl rfl ?_ | refine Ops.flp rfl rfl rfl rfl rfl ?_ | refine Ops.max rfl rfl rfl rfl rfl ?_ | refine Ops.min rfl rfl rfl rfl rfl ?_ | refine Ops.eqB rfl rfl rfl rfl rfl rfl ?_ | refine Ops.neB rfl rfl rfl rfl rfl rfl ?_ | (apply Ops.ldB rfl rfl rfl rfl rfl; assumption; rfl)))
          refine Ops.rdS (enc := Value.int .i64) (z := (0 : Int)) rfl rfl rfl rfl rfl rfl rfl rfl rfl rfl rfl (Sl.below hcv (hb01.trans (hE5.bel.mono hb01.size))) (by omega) (by omega) (fun p => ?_)
          simp only [Int.toNat_natCast]
          generalize (kid l q).getD j 0 = cj at *
          generalize ((kid l q).take j).foldl (pickF es) (far, []) = acc at *
          have hsl : (es.set q acc).length = es.length := List.length_set
          have hec : (es.set q acc).getD cj.toNat (0, []) = ed es cj := lgetD_set_ne (by omega)
          have heq : (es.set q acc).getD q (0, []) = acc := lgetD_set_eq (by omega)
          (repeat (first | with_reducible refine W.seq ?_ | with_reducible refine Ops.nil ?_ | with_reducible refine W.region ?_ | refine Ops.pu rfl rfl rfl ?_ | refine Ops.ar rfl rfl rfl (by omega) ?_ | refine Ops.yes rfl rfl rfl ?_ | refine Ops.no rfl rfl rfl rfl rfl ?_ | refine Ops.nu rfl rfl rfl rfl ?_ | with_reducible refine W.skip ?_ | with_reducible refine W.endb ?_ | with_reducible refine W.block ?_ | refine W.exit rfl ?_ | refine Ops.len rfl rfl rfl rfl rfl ?_ | refine Ops.flp rfl rfl rfl rfl rfl ?_ | refine Ops.max rfl rfl rfl rfl rfl ?_ | refine Ops.min rfl rfl rfl rfl rfl ?_ | refine Ops.eqB rfl rfl rfl rfl rfl rfl ?_ | refine Ops.neB rfl rfl rfl rfl rfl rfl ?_ | (apply Ops.ldB rfl rfl rfl rfl rfl; assumption; rfl)))
          refine W.still' rfl (by kernel_rfl) (fun w6 k6 _ => ?_)
          have hE6 := hE5.kp k6 (fun _ e => e.elim)
          have hrb6 := hrb5.kp k6 (fun e => e)
          obtain ⟨cs6, hcs6⟩ := hE6.out
          have hv1 := (hcs6.2 cj.toNat (by omega)).1
          have hv2 := (hcs6.2 q (by omega)).1
          rw [hec] at hv1
          rw [heq] at hv2
          (repeat (first | with_reducible refine W.seq ?_ | with_reducible refine Ops.nil ?_ | with_reducible refine W.region ?_ | refine Ops.pu rfl rfl rfl ?_ | refine Ops.ar rfl rfl rfl (by omega) ?_ | refine Ops.yes rfl rfl rfl ?_ | refine Ops.no rfl rfl rfl rfl rfl ?_ | refine Ops.nu rfl rfl rfl rfl ?_ | with_reducible refine W.skip ?_ | with_reducible refine W.endb ?_ | with_reducible refine W.block ?_ | refine W.exit rfl ?_ | refine Ops.len rfl rfl rfl rfl rfl ?_ | refine Ops.flp rfl rfl rfl rfl rfl ?_ | refine Ops.max rfl rfl rfl rfl rfl ?_ | refine Ops.min rfl rfl rfl rfl rfl ?_ | refine Ops.eqB rfl rfl rfl rfl rfl rfl ?_ | refine Ops.neB rfl rfl rfl rfl rfl rfl ?_ | (apply Ops.ldB rfl rfl rfl rfl rfl; assumption; rfl)))
          refine Ops.rdOF rfl rfl rfl rfl rfl rfl rfl rfl rfl rfl rfl rfl rfl rfl rfl rfl hcs6.1 (by omega) (by omega) (fun p q' => ?_)
          have hv1' : cs6.getD (cj.toNat * 2 + 0) undef = _ := hv1
          have hv2' : cs6.getD (q * 2 + 0) undef = _ := hv2
          rw [hv1']
          (repeat (first | with_reducible refine W.seq ?_ | with_reducible refine Ops.nil ?_ | with_reducible refine W.region ?_ | refine Ops.pu rfl rfl rfl ?_ | refine Ops.ar rfl rfl rfl (by omega) ?_ | refine Ops.yes rfl rfl rfl ?_ | refine Ops.no rfl rfl rfl rfl rfl ?_ | refine Ops.nu rfl rfl rfl rfl ?_ | with_reducible refine W.skip ?_ | with_reducible refine W.endb ?_ | with_reducible refine W.block ?_ | refine W.exit rfl ?_ | refine Ops.len rfl rfl rfl rfl rfl ?_ | refine Ops.flp rfl rfl rfl rfl rfl ?_ | refine Ops.max rfl rfl rfl rfl rfl ?_ | refine Ops.min rfl rfl rfl rfl rfl ?_ | refine Ops.eqB rfl rfl rfl rfl rfl rfl ?_ | refine Ops.neB rfl rfl rfl rfl rfl rfl ?_ | (apply Ops.ldB rfl rfl rfl rfl rfl; assumption; rfl)))
          refine Ops.rdOF rfl rfl rfl rfl rfl rfl rfl rfl rfl rfl rfl rfl rfl rfl rfl rfl hcs6.1 (by omega) (by omega) (fun p q' => ?_)
          simp only [Int.toNat_natCast]
          rw [hv2']
          (repeat (first | with_reducible refine W.seq ?_ | with_reducible refine Ops.nil ?_ | with_reducible refine W.region ?_ | refine Ops.pu rfl rfl rfl ?_ | refine Ops.ar rfl rfl rfl (by omega) ?_ | refine Ops.yes rfl rfl rfl ?_ | refine Ops.no rfl rfl rfl rfl rfl ?_ | refine Ops.nu rfl rfl rfl rfl ?_ | with_reducible refine W.skip ?_ | with_reducible refine W.endb ?_ | with_reducible refine W.block ?_ | refine W.exit rfl ?_ | refine Ops.len rfl rfl rfl rfl rfl ?_ | refine Ops.flp rfl rfl rfl rfl rfl ?_ | refine Ops.max rfl rfl rfl rfl rfl ?_ | refine Ops.min rfl rfl rfl rfl rfl ?_ | refine Ops.eqB rfl rfl rfl rfl rfl rfl ?_ | refine Ops.neB rfl rfl rfl rfl rfl rfl ?_ | (apply Ops.ldB rfl rfl rfl rfl rfl; assumption; rfl)))
          refine Ops.nilS rfl ?_
          (repeat (first | with_reducible refine W.seq ?_ | with_reducible refine Ops.nil ?_ | with_reducible refine W.region ?_ | refine Ops.pu rfl rfl rfl ?_ | refine Ops.ar rfl rfl rfl (by omega) ?_ | refine Ops.yes rfl rfl rfl ?_ | refine Ops.no rfl rfl rfl rfl rfl ?_ | refine Ops.nu rfl rfl rfl rfl ?_ | with_reducible refine W.skip ?_ | with_reducible refine W.endb ?_ | with_reducible refine W.block ?_ | refine W.exit rfl ?_ | refine Ops.len rfl rfl rfl rfl rfl ?_ | refine Ops.flp rfl rfl rfl rfl rfl ?_ | refine Ops.max rfl rfl rfl rfl rfl ?_ | refine Ops.min rfl rfl rfl rfl rfl ?_ | refine Ops.eqB rfl rfl rfl rfl rfl rfl ?_ | refine Ops.neB rfl rfl rfl rfl rfl rfl ?_ | (apply Ops.ldB rfl rfl rfl rfl rfl; assumption; rfl)))
          refine W.cond rfl (fun hlt2 => ?_) (fun hlt2 => ?_)
          · (repeat (first | with_reducible refine W.seq ?_ | with_reducible refine Ops.nil ?_ | with_reducible refine W.region ?_ | refine Ops.pu rfl rfl rfl ?_ | refine Ops.ar rfl rfl rfl (by omega) ?_ | refine Ops.yes rfl rfl rfl ?_ | refine Ops.no rfl rfl rfl rfl rfl ?_ | refine Ops.nu rfl rfl rfl rfl ?_ | with_reducible refine W.skip ?_ | with_reducible refine W.endb ?_ | with_reducible refine W.block ?_ | refine W.exit rfl ?_ | refine Ops.len rfl rfl rfl rfl rfl ?_ | refine Ops.flp rfl rfl rfl rfl rfl ?_ | refine Ops.max rfl rfl rfl rfl rfl ?_ | refine Ops.min rfl rfl rfl rfl rfl ?_ | refine Ops.eqB rfl rfl rfl rfl rfl rfl ?_ | refine Ops.neB rfl rfl rfl rfl rfl rfl ?_ | (apply Ops.ldB rfl rfl rfl rfl rfl; assumption; rfl)))
            have hL := (hcs6.2 cj.toNat (by omega)).2
            rw [hec] at hL
            refine Ops.rdOA rfl rfl rfl rfl rfl rfl rfl rfl rfl rfl rfl rfl hcs6.1 (by omega) (by omega) (fun p => ?_)
            rw [hv1]
            refine Ops.wrOA rfl rfl rfl rfl rfl rfl rfl rfl rfl rfl rfl rfl (by simp) rfl hL.oneCell hcs6.1 (by omega) (by omega) (fun w7 p hown7 k7 => ?_)
            simp only [Int.toNat_natCast] at hown7
            have hE7 := hE6.setA hcs6 (by omega) hown7 k7 hL
            rw [List.set_set] at hE7
            have hrb7 := hE6.frame hrb6 hrbe' k7
            (repeat (first | with_reducible refine W.seq ?_ | with_reducible refine Ops.nil ?_ | with_reducible refine W.region ?_ | refine Ops.pu rfl rfl rfl ?_ | refine Ops.ar rfl rfl rfl (by omega) ?_ | refine Ops.yes rfl rfl rfl ?_ | refine Ops.no rfl rfl rfl rfl rfl ?_ | refine Ops.nu rfl rfl rfl rfl ?_ | with_reducible refine W.skip ?_ | with_reducible refine W.endb ?_ | with_reducible refine W.block ?_ | refine W.exit rfl ?_ | refine Ops.len rfl rfl rfl rfl rfl ?_ | refine Ops.flp rfl rfl rfl rfl rfl ?_ | refine Ops.max rfl rfl rfl rfl rfl ?_ | refine Ops.min rfl rfl rfl rfl rfl ?_ | refine Ops.eqB rfl rfl rfl rfl rfl rfl ?_ | refine Ops.neB rfl rfl rfl rfl rfl rfl ?_ | (apply Ops.ldB rfl rfl rfl rfl rfl; assumption; rfl)))
            refine W.endl ⟨_, _, ⟨⟨j + 1, rfl, by omega, rfl, ?_, hrb7⟩, by omega⟩, (by repeat (first | exact trivial | refine And.intro rfl ?_))⟩
            rw [htk, pickF, if_pos (by simpa using hlt2)]
            exact hE7
          · (repeat (first | with_reducible refine W.seq ?_ | with_reducible refine Ops.nil ?_ | with_reducible refine W.region ?_ | refine Ops.pu rfl rfl rfl ?_ | refine Ops.ar rfl rfl rfl (by omega) ?_ | refine Ops.yes rfl rfl rfl ?_ | refine Ops.no rfl rfl rfl rfl rfl ?_ | refine Ops.nu rfl rfl rfl rfl ?_ | with_reducible refine W.skip ?_ | with_reducible refine W.endb ?_ | with_reducible refine W.block ?_ | refine W.exit rfl ?_ | refine Ops.len rfl rfl rfl rfl rfl ?_ | refine Ops.flp rfl rfl rfl rfl rfl ?_ | refine Ops.max rfl rfl rfl rfl rfl ?_ | refine Ops.min rfl rfl rfl rfl rfl ?_ | refine Ops.eqB rfl rfl rfl rfl rfl rfl ?_ | refine Ops.neB rfl rfl rfl rfl rfl rfl ?_ | (apply Ops.ldB rfl rfl rfl rfl rfl; assumption; rfl)))
            refine W.endl ⟨_, _, ⟨⟨j + 1, rfl, by omega, rfl, ?_, hrb6⟩, by omega⟩, (by repeat (first | exact trivial | refine And.intro rfl ?_))⟩
            rw [htk, pickF, if_neg (by simpa using hlt2)]
            exact hE6
        · have hlt : j = (kid l q).length := by simp at hc; omega
          subst hlt
          rw [List.take_length] at hE5
          have hN6 := hN.set hT hql (hlf q) (x := (kid l q).foldl (pickF es) (far, [])) (by rw [NE, if_neg hnl, if_pos hev]) rfl
          (repeat (first | with_reducible refine W.seq ?_ | with_reducible refine Ops.nil ?_ | with_reducible refine W.region ?_ | refine Ops.pu rfl rfl rfl ?_ | refine Ops.ar rfl rfl rfl (by omega) ?_ | refine Ops.yes rfl rfl rfl ?_ | refine Ops.no rfl rfl rfl rfl rfl ?_ | refine Ops.nu rfl rfl rfl rfl ?_ | with_reducible refine W.skip ?_ | with_reducible refine W.endb ?_ | with_reducible refine W.block ?_ | refine W.exit rfl ?_ | refine Ops.len rfl rfl rfl rfl rfl ?_ | refine Ops.flp rfl rfl rfl rfl rfl ?_ | refine Ops.max rfl rfl rfl rfl rfl ?_ | refine Ops.min rfl rfl rfl rfl rfl ?_ | refine Ops.eqB rfl rfl rfl rfl rfl rfl ?_ | refine Ops.neB rfl rfl rfl rfl rfl rfl ?_ | (apply Ops.ldB rfl rfl rfl rfl rfl; assumption; rfl)))
          exact W.endl ⟨q, _, ⟨⟨_, by omega, rfl, hE5, hN6, hrb5⟩, by omega⟩, (by repeat (first | exact trivial | refine And.intro rfl ?_))⟩
      · -- all the children are needed
        have hz0 : es.set q (0, []) = es := by
          rw [← hN.zero q (by omega)]
          apply List.ext_getElem (by simp)
          intro i h1 h2
          by_cases e : q = i
          · subst e; simp [List.getD_eq_getElem?_getD, h2]
          · simp [List.getElem_set_ne e]
        have hE4 : Eff w1 w3 (.slice (some ⟨dr, 0, none⟩) l.length l.length) (es.set q (0, [])) := by rw [hz0]; exact hE
        have hB4 := hB.kp (Kp.of_below (S := fun _ => False) hb3) (fun e => e)
        (repeat (first | with_reducible refine W.seq ?_ | with_reducible refine Ops.nil ?_ | with_reducible refine W.region ?_ | refine Ops.pu rfl rfl rfl ?_ | refine Ops.ar rfl rfl rfl (by omega) ?_ | refine Ops.yes rfl rfl rfl ?_ | refine Ops.no rfl rfl rfl rfl rfl ?_ | refine Ops.nu rfl rfl rfl rfl ?_ | with_reducible refine W.skip ?_ | with_reducible refine W.endb ?_ | with_reducible refine W.block ?_ | refine W.exit rfl ?_ | refine Ops.len rfl rfl rfl rfl rfl ?_ | refine Ops.flp rfl rfl rfl rfl rfl ?_ | refine Ops.max rfl rfl rfl rfl rfl ?_ | refine Ops.min rfl rfl rfl rfl rfl ?_ | refine Ops.eqB rfl rfl rfl rfl rfl rfl ?_ | refine Ops.neB rfl rfl rfl rfl rfl rfl ?_ | (apply Ops.ldB rfl rfl rfl rfl rfl; assumption; rfl)))
        refine Ops.rdK rfl rfl rfl rfl rfl rfl rfl rfl rfl rfl rfl rfl rfl rfl rfl hTr hb3 (by omega) (by omega) (fun cv p q' hcv => ?_)
        obtain ⟨Ac, cc, rfl⟩ := Sl.sl hcv
        (repeat (first | with_reducible refine W.seq ?_ | with_reducible refine Ops.nil ?_ | with_reducible refine W.region ?_ | refine Ops.pu rfl rfl rfl ?_ | refine Ops.ar rfl rfl rfl (by omega) ?_ | refine Ops.yes rfl rfl rfl ?_ | refine Ops.no rfl rfl rfl rfl rfl ?_ | refine Ops.nu rfl rfl rfl rfl ?_ | with_reducible refine W.skip ?_ | with_reducible refine W.endb ?_ | with_reducible refine W.block ?_ | refine W.exit rfl ?_ | refine Ops.len rfl rfl rfl rfl rfl ?_ | refine Ops.flp rfl rfl rfl rfl rfl ?_ | refine Ops.max rfl rfl rfl rfl rfl ?_ | refine Ops.min rfl rfl rfl rfl rfl ?_ | refine Ops.eqB rfl rfl rfl rfl rfl rfl ?_ | refine Ops.neB rfl rfl rfl rfl rfl rfl ?_ | (apply Ops.ldB rfl rfl rfl rfl rfl; assumption; rfl)))
        refine W.loop (fun m ρ w5 => ∃ (j : Nat), m = (kid l q).length - j ∧ j ≤ (kid l q).length ∧ ρ = [(0, .pointer (some ⟨g, 0, none⟩)), (1, .bool mx), (2, .func (.func f) first.toArray cap.toArray), (6, .pointer (some ⟨rb, 0, none⟩)), (7, .slice (some ⟨dr, 0, none⟩) l.length l.length), (8, .int .i64 q), (36, .slice Ac (kid l q).length cc), (37, .int .i64 (kid l q).length), (38, .int .i64 j)] ∧
            Eff w1 w5 (.slice (some ⟨dr, 0, none⟩) l.length l.length) (es.set q (((kid l q).take j).foldl (joinF es) (0, []))) ∧ Blk w5 rb #[.int .i64 0, .slice none 0 0] 84)
          ⟨_, _, ⟨0, rfl, Nat.zero_le _, rfl, hE4, hrb⟩, (by repeat (first | exact trivial | refine And.intro rfl ?_))⟩ ?_
        rintro m ρ w5 ⟨j, rfl, hj, rfl, hE5, hrb5⟩
        (repeat (first | with_reducible refine W.seq ?_ | with_reducible refine Ops.nil ?_ | with_reducible refine W.region ?_ | refine Ops.pu rfl rfl rfl ?_ | refine Ops.ar rfl rfl rfl (by omega) ?_ | refine Ops.yes rfl rfl rfl ?_ | refine Ops.no rfl rfl rfl rfl rfl ?_ | refine Ops.nu rfl rfl rfl rfl ?_ | with_reducible refine W.skip ?_ | with_reducible refine W.endb ?_ | with_reducible refine W.block ?_ | refine W.exit rfl ?_ | refine Ops.len rfl rfl rfl rfl rfl ?_ | refine Ops.flp rfl rfl rfl rfl rfl ?_ | refine Ops.max rfl rfl rfl rfl rfl ?_ | refine Ops.min rfl rfl rfl rfl rfl ?_ | refine Ops.eqB rfl rfl rfl rfl rfl rfl ?_ | refine Ops.neB rfl rfl rfl rfl rfl rfl ?_ | (apply Ops.ldB rfl rfl rfl rfl rfl; assumption; rfl)))
        refine W.cond rfl (fun hc => ?_) (fun hc => ?_)
        · have hlt : j < (kid l q).length := by simp at hc; omega
          have hkin := hT.kin q j hql hlt
          simp only [Go.Proofs.Ytdiljpnfochndaa.HP.k_] at hkin
          have htk : ((kid l q).take (j + 1)).foldl (joinF es) (0, []) = joinF es (((kid l q).take j).foldl (joinF es) (0, [])) ((kid l q).getD j 0) := by
            rw [Go.Proofs.Ytdiljpnfochndaa.HP.take_snoc _ _ hlt, List.foldl_append]; rfl
          have hmc : (kid l q).getD j 0 ∈ kid l q := by
            rw [List.getD_eq_getElem?_getD, List.getElem?_eq_getElem (by omega)]
            simp
          have hjb := join_bd (es := es) ((kid l q).take j) (fun c hc => hkb c (List.mem_of_mem_take hc)) (0, []) ⟨by decide, by decide⟩
          have hgl1 := (Go.Proofs.Ytdiljpnfochndaa.HP.good_join hT hql hkg (j + 1) (by omega)).1.len
          rw [htk] at hgl1
          have hcb := hkb _ hmc
          (repeat (first | with_reducible refine W.seq ?_ | with_reducible refine Ops.nil ?_ | with_reducible refine W.region ?_ | refine Ops.pu rfl rfl rfl ?_ | refine Ops.ar rfl rfl rfl (by omega) ?_ | refine Ops.yes rfl rfl rfl ?_ | refine Ops.no rfl rfl rfl rfl rfl ?_ | refine Ops.nu rfl rfl rfl rfl ?_ | with_reducible refine W.skip ?_ | with_reducible refine W.endb ?_ | with_reducible refine W.block ?_ | refine W.exit rfl ?_ | refine Ops.len rfl rfl rfl rfl rfl ?_ | refine Ops.flp rfl rfl rfl rfl rfl ?_ | refine Ops.max rfl rfl rfl rfl rfl ?_ | refine Ops.min rfl rfl rfl rfl rfl ?_ | refine Ops.eqB rfl rfl rfl rfl rfl rfl ?_ | refine Ops.neB rfl rfl rfl rfl rfl rfl ?_ | (apply Ops.ldB rfl rfl rfl rfl rfl; assumption; rfl)))
          refine Ops.rdS (enc := Value.int .i64) (z := (0 : Int)) rfl rfl rfl rfl rfl rfl rfl rfl rfl rfl rfl (Sl.below hcv (hb01.trans (hE5.bel.mono hb01.size))) (by omega) (by omega) (fun p => ?_)
          simp only [Int.toNat_natCast]
          generalize (kid l q).getD j 0 = cj at *
          generalize ((kid l q).take j).foldl (joinF es) (0, []) = acc at *
          have hsl : (es.set q acc).length = es.length := List.length_set
          have hec : (es.set q acc).getD cj.toNat (0, []) = ed es cj := lgetD_set_ne (by omega)
          have heq : (es.set q acc).getD q (0, []) = acc := lgetD_set_eq (by omega)
          (repeat (first | with_reducible refine W.seq ?_ | with_reducible refine Ops.nil ?_ | with_reducible refine W.region ?_ | refine Ops.pu rfl rfl rfl ?_ | refine Ops.ar rfl rfl rfl (by omega) ?_ | refine Ops.yes rfl rfl rfl ?_ | refine Ops.no rfl rfl rfl rfl rfl ?_ | refine Ops.nu rfl rfl rfl rfl ?_ | with_reducible refine W.skip ?_ | with_reducible refine W.endb ?_ | with_reducible refine W.block ?_ | refine W.exit rfl ?_ | refine Ops.len rfl rfl rfl rfl rfl ?_ | refine Ops.flp rfl rfl rfl rfl rfl ?_ | refine Ops.max rfl rfl rfl rfl rfl ?_ | refine Ops.min rfl rfl rfl rfl rfl ?_ | refine Ops.eqB rfl rfl rfl rfl rfl rfl ?_ | refine Ops.neB rfl rfl rfl rfl rfl rfl ?_ | (apply Ops.ldB rfl rfl rfl rfl rfl; assumption; rfl)))
          refine W.tail' 14 rfl (by kernel_rfl) (fun w6 k6 _ => ?_)
          have hE6 := hE5.kp k6 (fun _ e => e.elim)
          have hrb6 := hrb5.kp k6 (fun e => e)
          obtain ⟨cs6, hcs6⟩ := hE6.out
          have hv1 := (hcs6.2 cj.toNat (by omega)).1
          have hv2 := (hcs6.2 q (by omega)).1
          rw [hec] at hv1
          rw [heq] at hv2
          (repeat (first | with_reducible refine W.seq ?_ | with_reducible refine Ops.nil ?_ | with_reducible refine W.region ?_ | refine Ops.pu rfl rfl rfl ?_ | refine Ops.ar rfl rfl rfl (by omega) ?_ | refine Ops.yes rfl rfl rfl ?_ | refine Ops.no rfl rfl rfl rfl rfl ?_ | refine Ops.nu rfl rfl rfl rfl ?_ | with_reducible refine W.skip ?_ | with_reducible refine W.endb ?_ | with_reducible refine W.block ?_ | refine W.exit rfl ?_ | refine Ops.len rfl rfl rfl rfl rfl ?_ | refine Ops.flp rfl rfl rfl rfl rfl ?_ | refine Ops.max rfl rfl rfl rfl rfl ?_ | refine Ops.min rfl rfl rfl rfl rfl ?_ | refine Ops.eqB rfl rfl rfl rfl rfl rfl ?_ | refine Ops.neB rfl rfl rfl rfl rfl rfl ?_ | (apply Ops.ldB rfl rfl rfl rfl rfl; assumption; rfl)))
          refine Ops.rdOF rfl rfl rfl rfl rfl rfl rfl rfl rfl rfl rfl rfl rfl rfl rfl rfl hcs6.1 (by omega) (by omega) (fun p q' => ?_)
          have hv1' : cs6.getD (cj.toNat * 2 + 0) undef = _ := hv1
          have hv2' : cs6.getD (q * 2 + 0) undef = _ := hv2
          simp only [Int.toNat_natCast]
          rw [hv2']
          (repeat (first | with_reducible refine W.seq ?_ | with_reducible refine Ops.nil ?_ | with_reducible refine W.region ?_ | refine Ops.pu rfl rfl rfl ?_ | refine Ops.ar rfl rfl rfl (by omega) ?_ | refine Ops.yes rfl rfl rfl ?_ | refine Ops.no rfl rfl rfl rfl rfl ?_ | refine Ops.nu rfl rfl rfl rfl ?_ | with_reducible refine W.skip ?_ | with_reducible refine W.endb ?_ | with_reducible refine W.block ?_ | refine W.exit rfl ?_ | refine Ops.len rfl rfl rfl rfl rfl ?_ | refine Ops.flp rfl rfl rfl rfl rfl ?_ | refine Ops.max rfl rfl rfl rfl rfl ?_ | refine Ops.min rfl rfl rfl rfl rfl ?_ | refine Ops.eqB rfl rfl rfl rfl rfl rfl ?_ | refine Ops.neB rfl rfl rfl rfl rfl rfl ?_ | (apply Ops.ldB rfl rfl rfl rfl rfl; assumption; rfl)))
          refine Ops.rdOF rfl rfl rfl rfl rfl rfl rfl rfl rfl rfl rfl rfl rfl rfl rfl rfl hcs6.1 (by omega) (by omega) (fun p q' => ?_)
          rw [hv1']
          have hfar : far = 1099511627776 := rfl
          (repeat (first | with_reducible refine W.seq ?_ | with_reducible refine Ops.nil ?_ | with_reducible refine W.region ?_ | refine Ops.pu rfl rfl rfl ?_ | refine Ops.ar rfl rfl rfl (by omega) ?_ | refine Ops.yes rfl rfl rfl ?_ | refine Ops.no rfl rfl rfl rfl rfl ?_ | refine Ops.nu rfl rfl rfl rfl ?_ | with_reducible refine W.skip ?_ | with_reducible refine W.endb ?_ | with_reducible refine W.block ?_ | refine W.exit rfl ?_ | refine Ops.len rfl rfl rfl rfl rfl ?_ | refine Ops.flp rfl rfl rfl rfl rfl ?_ | refine Ops.max rfl rfl rfl rfl rfl ?_ | refine Ops.min rfl rfl rfl rfl rfl ?_ | refine Ops.eqB rfl rfl rfl rfl rfl rfl ?_ | refine Ops.neB rfl rfl rfl rfl rfl rfl ?_ | (apply Ops.ldB rfl rfl rfl rfl rfl; assumption; rfl)))
          refine Ops.nilS rfl ?_
          refine Ops.wrOF rfl rfl rfl rfl rfl rfl rfl rfl rfl rfl rfl rfl rfl rfl rfl rfl rfl (by simp) (by simp) rfl hcs6.1 (by omega) (by omega) (fun w7 p q' hown7 k7 => ?_)
          have hE7 := hE6.setM hcs6 (by omega) hown7 k7
          have hrb7 := hE6.frame hrb6 hrbe' k7
          simp only [Int.toNat_natCast] at hE7
          rw [heq, List.set_set] at hE7
          have hsl7 : (es.set q (Min.min 1099511627776 (acc.1 + (ed es cj).1), acc.2)).length = es.length := List.length_set
          have hec7 : (es.set q (Min.min 1099511627776 (acc.1 + (ed es cj).1), acc.2)).getD cj.toNat (0, []) = ed es cj := lgetD_set_ne (by omega)
          have heq7 : (es.set q (Min.min 1099511627776 (acc.1 + (ed es cj).1), acc.2)).getD q (0, []) = (Min.min 1099511627776 (acc.1 + (ed es cj).1), acc.2) := lgetD_set_eq (by omega)
          obtain ⟨cs7, hcs7⟩ := hE7.out
          have h71 := hcs7.1
          rw [hsl7, hel] at h71
          have hlq : q * 2 + 1 < l.length * 2 := by omega
          have hlc : cj.toNat * 2 + 1 < l.length * 2 := by omega
          have hl0 : 0 < l.length := by omega
          (repeat (first | with_reducible refine W.seq ?_ | with_reducible refine Ops.nil ?_ | with_reducible refine W.region ?_ | refine Ops.pu rfl rfl rfl ?_ | refine Ops.ar rfl rfl rfl (by omega) ?_ | refine Ops.yes rfl rfl rfl ?_ | refine Ops.no rfl rfl rfl rfl rfl ?_ | refine Ops.nu rfl rfl rfl rfl ?_ | with_reducible refine W.skip ?_ | with_reducible refine W.endb ?_ | with_reducible refine W.block ?_ | refine W.exit rfl ?_ | refine Ops.len rfl rfl rfl rfl rfl ?_ | refine Ops.flp rfl rfl rfl rfl rfl ?_ | refine Ops.max rfl rfl rfl rfl rfl ?_ | refine Ops.min rfl rfl rfl rfl rfl ?_ | refine Ops.eqB rfl rfl rfl rfl rfl rfl ?_ | refine Ops.neB rfl rfl rfl rfl rfl rfl ?_ | (apply Ops.ldB rfl rfl rfl rfl rfl; assumption; rfl)))
          refine W.ord 16 (fun w' => w'.ownsRow 0 84 2 (.slice (some ⟨dr, 0, none⟩) l.length l.length) l.length cs7) [(0,1),(1,1),(2,1),(3,1),(4,1),(5,1),(6,2),(7,1),(8,1),(9,1),(10,1),(11,2),(12,0),(13,0),(14,0),(15,0),(16,0)] rfl (by kernel_rfl) rfl (by kernel_rfl) (fun w8 k8 _ => ⟨own_kp h71 k8 (fun _ _ e => e.elim), ?_⟩)
          have hE8 := hE7.kp k8 (fun _ e => e.elim)
          have hrb8 := hrb7.kp k8 (fun e => e)
          have h81 := own_kp h71 k8 (fun _ _ e => e.elim)
          have hcs8 : EffC w1 w8 _ cs7 _ := ⟨own_kp hcs7.1 k8 (fun _ _ e => e.elim), fun i hi => ⟨(hcs7.2 i hi).1, (hcs7.2 i hi).2.kp k8 (fun _ e => e.elim)⟩⟩
          refine Ord.take rfl rfl rfl (fun _ _ _ h => h) (fun _ => EV.pu rfl) ?_
          refine Ord.take rfl rfl rfl (fun _ _ _ h => h) (fun _ => EV.pu rfl) ?_
          refine Ord.take rfl rfl rfl (fun _ _ _ h => h) (fun _ => EV.pu rfl) ?_
          refine Ord.take rfl rfl rfl (fun _ _ _ h => h) (fun _ => EV.pu rfl) ?_
          refine Ord.take rfl rfl rfl (fun _ _ _ h => h) (fun _ => EV.idx rfl rfl rfl rfl rfl (by omega) (by omega)) ?_
          refine Ord.take rfl rfl rfl (fun _ _ _ h => h) (fun _ => EV.fld rfl rfl rfl) ?_
          refine Ord.read rfl rfl rfl (fun _ _ _ h => h) (fun w' hF => EV.ld rfl rfl rfl (own_cell hF hlq hl0)) ?_
          refine Ord.take rfl rfl rfl (fun _ _ _ h => h) (fun _ => EV.pu rfl) ?_
          refine Ord.take rfl rfl rfl (fun _ _ _ h => h) (fun _ => EV.pu rfl) ?_
          refine Ord.take rfl rfl rfl (fun _ _ _ h => h) (fun _ => EV.idx rfl rfl rfl rfl rfl (by omega) (by omega)) ?_
          refine Ord.take rfl rfl rfl (fun _ _ _ h => h) (fun _ => EV.fld rfl rfl rfl) ?_
          refine Ord.read rfl rfl rfl (fun _ _ _ h => h) (fun w' hF => EV.ld rfl rfl rfl (own_cell hF hlc hl0)) ?_
          have hLq := (hcs8.2 q (by omega)).2
          have hLc := (hcs8.2 cj.toNat (by omega)).2
          rw [heq7] at hLq
          rw [hec7] at hLc
          refine Ord.eff rfl ?_
          refine Ops.bs2 rfl rfl rfl rfl rfl rfl rfl rfl rfl hLq.oneCell hLc.oneCell (fun w9 r9 hM9 => ?_)
          refine Ops.nil (W.endl ⟨fun _ => own_kp h81 hM9.kp (fun _ _ e => e.elim), ?_⟩)
          have h91 := own_kp h81 hM9.kp (fun _ _ e => e.elim)
          have hcs9 : EffC w1 w9 _ cs7 _ := ⟨own_kp hcs8.1 hM9.kp (fun _ _ e => e.elim), fun i hi => ⟨(hcs8.2 i hi).1, (hcs8.2 i hi).2.kp hM9.kp (fun _ e => e.elim)⟩⟩
          have hrb9 := hrb8.kp hM9.kp (fun e => e)
          have hLq9 := hLq.kp hM9.kp (fun _ e => e.elim)
          have hLc9 := hLc.kp hM9.kp (fun _ e => e.elim)
          have hdl9 : dr < w9.heap.size := (hcs9.1.lt dr rfl).2
          refine Ord.eff rfl ?_
          refine Ops.call rfl rfl rfl rfl rfl (concat_c (svs := [_, _]) (xss := [acc.2, (ed es cj).2]) hM9.at_ rfl (fun j hj => ?_) (by simp only [joinF, List.length_append] at hgl1; simp only [List.flatten_cons, List.flatten_nil, List.append_nil, List.length_append]; omega) (by simp)) (fun v w10 hI => ?_)
          · rcases j with _ | _ | j
            · exact hLq9.sl
            · exact hLc9.sl
            · simp at hj; omega
          have k10 : Kp (fun _ => False) w9 w10 := Kp.of_below hI.bel
          have h101 := own_kp h91 k10 (fun _ _ e => e.elim)
          have hcs10 : EffC w1 w10 _ cs7 _ := ⟨own_kp hcs9.1 k10 (fun _ _ e => e.elim), fun i hi => ⟨(hcs9.2 i hi).1, (hcs9.2 i hi).2.kp k10 (fun _ e => e.elim)⟩⟩
          have hE10 : Eff w1 w10 (.slice (some ⟨dr, 0, none⟩) l.length l.length) (es.set q (Min.min 1099511627776 (acc.1 + (ed es cj).1), acc.2)) := (hE8.kp hM9.kp (fun _ e => e.elim)).kp k10 (fun _ e => e.elim)
          have hrb10 := hrb9.kp k10 (fun e => e)
          have hLv : Lf w1 w10 (.slice (some ⟨dr, 0, none⟩) l.length l.length) v (acc.2 ++ (ed es cj).2) := by
            have := Lf.new (w0 := w1) (ov := .slice (some ⟨dr, 0, none⟩) l.length l.length) hI (by have := hM9.size; have := hE8.bel.size; omega) (fun k hk => by simp [Value.ownBlock] at hk; omega)
            simpa using this
          refine Ops.nil (W.endl ⟨fun _ => h101, ?_⟩)
          obtain ⟨g', cap', cur, hsl', hBd, hszd⟩ := own_blk h101 hl0
          simp only [Value.slice.injEq, Option.some.injEq, Addr.mk.injEq, and_true, true_and] at hsl'
          obtain ⟨rfl, _, rfl⟩ := hsl'
          refine Ord.eff rfl ?_
          refine Ops.idx rfl rfl rfl rfl rfl rfl rfl (by omega) (by omega) ?_
          refine Ops.nil (W.endl ⟨fun _ => h101, ?_⟩)
          refine Ord.eff rfl ?_
          refine Ops.fld rfl rfl rfl rfl rfl ?_
          refine Ops.nil (W.endl ⟨fun _ => h101, ?_⟩)
          refine Ord.eff rfl ?_
          rw [add_lit, add_lit, Nat.zero_add]
          refine Ops.st rfl rfl rfl rfl rfl rfl hLv.oneCell hBd (by simp; omega) (fun w11 hu => ?_)
          refine Ops.nil (W.endl ⟨fun h => absurd h (by simp), ?_⟩)
          have h111 := own_set h101 hBd hu
          have k11 : Kp (fun b => (Value.slice (some ⟨dr, 0, none⟩) l.length l.length).ownBlock = some b) w10 w11 := hu.kp.mono (fun i _ e => by simp [Value.ownBlock, e])
          have hE11 := hE10.setL hcs10 (q := q) (by omega) (by rw [hsl7, hel]; exact h111) k11 hLv
          have hrb11 := hE10.frame hrb10 hrbe' k11
          rw [heq7, List.set_set] at hE11
          refine Ord.nil ?_
          (repeat (first | with_reducible refine W.seq ?_ | with_reducible refine Ops.nil ?_ | with_reducible refine W.region ?_ | refine Ops.pu rfl rfl rfl ?_ | refine Ops.ar rfl rfl rfl (by omega) ?_ | refine Ops.yes rfl rfl rfl ?_ | refine Ops.no rfl rfl rfl rfl rfl ?_ | refine Ops.nu rfl rfl rfl rfl ?_ | with_reducible refine W.skip ?_ | with_reducible refine W.endb ?_ | with_reducible refine W.block ?_ | refine W.exit rfl ?_ | refine Ops.len rfl rfl rfl rfl rfl ?_ | refine Ops.flp rfl rfl rfl rfl rfl ?_ | refine Ops.max rfl rfl rfl rfl rfl ?_ | refine Ops.min rfl rfl rfl rfl rfl ?_ | refine Ops.eqB rfl rfl rfl rfl rfl rfl ?_ | refine Ops.neB rfl rfl rfl rfl rfl rfl ?_ | (apply Ops.ldB rfl rfl rfl rfl rfl; assumption; rfl)))
          exact W.endl ⟨_, _, ⟨⟨j + 1, rfl, by omega, rfl, by rw [htk]; exact hE11, hrb11⟩, by omega⟩, (by repeat (first | exact trivial | refine And.intro rfl ?_))⟩
        · have hlt : j = (kid l q).length := by simp at hc; omega
          subst hlt
          rw [List.take_length] at hE5
          have hN6 := hN.set hT hql (hlf q) (x := (kid l q).foldl (joinF es) (0, [])) (by rw [NE, if_neg hnl, if_neg (by rw [hev]; simp)]) rfl
          (repeat (first | with_reducible refine W.seq ?_ | with_reducible refine Ops.nil ?_ | with_reducible refine W.region ?_ | refine Ops.pu rfl rfl rfl ?_ | refine Ops.ar rfl rfl rfl (by omega) ?_ | refine Ops.yes rfl rfl rfl ?_ | refine Ops.no rfl rfl rfl rfl rfl ?_ | refine Ops.nu rfl rfl rfl rfl ?_ | with_reducible refine W.skip ?_ | with_reducible refine W.endb ?_ | with_reducible refine W.block ?_ | refine W.exit rfl ?_ | refine Ops.len rfl rfl rfl rfl rfl ?_ | refine Ops.flp rfl rfl rfl rfl rfl ?_ | refine Ops.max rfl rfl rfl rfl rfl ?_ | refine Ops.min rfl rfl rfl rfl rfl ?_ | refine Ops.eqB rfl rfl rfl rfl rfl rfl ?_ | refine Ops.neB rfl rfl rfl rfl rfl rfl ?_ | (apply Ops.ldB rfl rfl rfl rfl rfl; assumption; rfl)))
          exact W.endl ⟨q, _, ⟨⟨_, by omega, rfl, hE5, hN6, hrb5⟩, by omega⟩, (by repeat (first | exact trivial | refine And.intro rfl ?_))⟩
  · obtain rfl : m = 0 := by simp at hc; omega
    obtain ⟨cs, hcs⟩ := hE.out
    (repeat (first | with_reducible refine W.seq ?_ | with_reducible refine Ops.nil ?_ | with_reducible refine W.region ?_ | refine Ops.pu rfl rfl rfl ?_ | refine Ops.ar rfl rfl rfl (by omega) ?_ | refine Ops.yes rfl rfl rfl ?_ | refine Ops.no rfl rfl rfl rfl rfl ?_ | refine Ops.nu rfl rfl rfl rfl ?_ | with_reducible refine W.skip ?_ | with_reducible refine W.endb ?_ | with_reducible refine W.block ?_ | refine W.exit rfl ?_ | refine Ops.len rfl rfl rfl rfl rfl ?_ | refine Ops.flp rfl rfl rfl rfl rfl ?_ | refine Ops.max rfl rfl rfl rfl rfl ?_ | refine Ops.min rfl rfl rfl rfl rfl ?_ | refine Ops.eqB rfl rfl rfl rfl rfl rfl ?_ | refine Ops.neB rfl rfl rfl rfl rfl rfl ?_ | (apply Ops.ldB rfl rfl rfl rfl rfl; assumption; rfl)))
    refine Ops.rdOA rfl rfl rfl rfl rfl rfl rfl rfl rfl rfl rfl rfl hcs.1 (by omega) (by omega) (fun p => ?_)
    have h0 := hcs.2 0 (by omega)
    simp only [Int.toNat_natCast, Int.toNat_zero, Nat.zero_mul, Nat.zero_add] at h0 ⊢
    have hone : ((cs.getD 0 undef).oneCell' = true) := by rw [h0.1]; rfl
    refine Ops.st2 rfl rfl rfl rfl rfl rfl hone h0.2.oneCell hrb (fun w4 hu => ?_)
    (repeat (first | with_reducible refine W.seq ?_ | with_reducible refine Ops.nil ?_ | with_reducible refine W.region ?_ | refine Ops.pu rfl rfl rfl ?_ | refine Ops.ar rfl rfl rfl (by omega) ?_ | refine Ops.yes rfl rfl rfl ?_ | refine Ops.no rfl rfl rfl rfl rfl ?_ | refine Ops.nu rfl rfl rfl rfl ?_ | with_reducible refine W.skip ?_ | with_reducible refine W.endb ?_ | with_reducible refine W.block ?_ | refine W.exit rfl ?_ | refine Ops.len rfl rfl rfl rfl rfl ?_ | refine Ops.flp rfl rfl rfl rfl rfl ?_ | refine Ops.max rfl rfl rfl rfl rfl ?_ | refine Ops.min rfl rfl rfl rfl rfl ?_ | refine Ops.eqB rfl rfl rfl rfl rfl rfl ?_ | refine Ops.neB rfl rfl rfl rfl rfl rfl ?_ | (apply Ops.ldB rfl rfl rfl rfl rfl; assumption; rfl)))
    have hrbe' : rb < w1.heap.size := by omega
    have hL4 : Lf w1 w4 (.slice (some ⟨dr, 0, none⟩) l.length l.length) (cs.getD 1 undef) (es.getD 0 (0, [])).2 :=
      ⟨own_kp h0.2.1 hu.kp (fun i hi e => by have := (h0.2.2 i hi).1; omega), h0.2.2⟩
    have hb4 : Below w.heap.size w w4 := Below.at_ hb3 hu.kp (fun i hi => by omega)
    refine W.fretC2 rfl rfl rfl rfl hu.blk ⟨hb4, es, _, ⟨hN.len, fun j hj => hN.eq j (Nat.zero_le _) hj⟩, hN.good 0 (Nat.le_refl _) (by omega), by rw [h0.1], ⟨hb4, hL4.1, fun k hk => by have := (hL4.2 k hk).1; omega⟩⟩
end Go.Proofs.Ytdiljpnfochndaa
/- Maps from ints to true. -/
namespace Go.Proofs.Ytdiljpnfochndaa.VW
open Go Go.RowKit
def kvI (k : Int) : Value × Value := (.int .i64 k, .bool true)
/-- Block b is a map in which the numbers of f stand, with true. -/
def MapB (w : World) (b : Nat) (f : Int → Bool) : Prop := ∃ (es : Array MapEntry) (c : Nat) (ks : List Int), w.heap[b]? = some (.map es c) ∧ es.toList.map (fun e => (e.key, e.val)) = ks.map kvI ∧ ∀ k, f k = ks.contains k
theorem MapB.kp {w w' : World} {b : Nat} {f : Int → Bool} {S : Nat → Prop} (h : MapB w b f) (k : Kp S w w') (hs : ¬ S b) : MapB w' b f := by
  obtain ⟨es, c, ks, hb, h1, h2⟩ := h
  exact ⟨es, c, ks, by rw [k.blk b (Array.getElem?_eq_some_iff.1 hb).1 hs]; exact hb, h1, h2⟩
theorem MapB.lt {w : World} {b : Nat} {f : Int → Bool} (h : MapB w b f) : b < w.heap.size := by
  obtain ⟨es, c, ks, hb, h1, h2⟩ := h
  exact (Array.getElem?_eq_some_iff.1 hb).1
theorem findNow_in {x : Int} : ∀ {ks : List Int} {es : List MapEntry} {i : Nat}, es.map (fun e => (e.key, e.val)) = ks.map kvI → ks.contains x = true → ∃ j, i ≤ j ∧ Instr.findNow (.int .i64) (.int .i64 x) es i = some (some (j, .bool true)) ∧ (es[j - i]?).map (·.key) = some (.int .i64 x)
  | [], _, _, _, h => by simp at h
  | k :: ks, [], _, h, _ => by simp at h
  | k :: ks, e :: es, i, h, hx => by
    simp only [List.map_cons, List.cons.injEq, kvI, Prod.mk.injEq] at h
    obtain ⟨⟨hk, hv⟩, h⟩ := h
    simp only [Instr.findNow, hk, hv, Instr.sameNow]
    by_cases e1 : x = k
    · subst e1
      exact ⟨i, Nat.le_refl _, by simp, by simp [hk]⟩
    · have hx' : ks.contains x = true := by simp [e1] at hx; simpa using hx
      obtain ⟨j, h1, h2, h3⟩ := findNow_in (i := i + 1) h hx'
      have e2 : (x == k) = false := by simpa using e1
      refine ⟨j, by omega, by simp only [e2]; exact h2, ?_⟩
      rw [show j - i = (j - (i + 1)) + 1 by omega]
      simpa using h3
theorem findNow_out {x : Int} : ∀ {ks : List Int} {es : List MapEntry} {i : Nat}, es.map (fun e => (e.key, e.val)) = ks.map kvI → ks.contains x = false → Instr.findNow (.int .i64) (.int .i64 x) es i = some none
  | [], [], _, _, _ => rfl
  | [], _ :: _, _, h, _ => by simp at h
  | k :: ks, [], _, h, _ => by simp at h
  | k :: ks, e :: es, i, h, hx => by
    simp only [List.map_cons, List.cons.injEq, kvI, Prod.mk.injEq] at h
    obtain ⟨⟨hk, hv⟩, h⟩ := h
    simp only [Instr.findNow, hk, hv, Instr.sameNow]
    simp only [List.contains_cons, Bool.or_eq_false_iff, beq_eq_false_iff_ne] at hx
    have e2 : (x == k) = false := by simpa using hx.1
    simp only [e2]
    exact findNow_out h hx.2
section
variable {P : Program} [hT : Tab P] {n : Nat} {ds : List Deferred} {Φ : Post} {k : List It} {ρ : E} {w : World} {all : Array Oper} {l : List Oper} {md : Option (List Oper)}
theorem Ops.mkM {o : Oper} {d t : Nat} (ho : o.op = .makeMap t none) (hd : o.dst = some d) (hg : o.guard = none)
    (hk : ∀ w' r, MapB w' r (fun _ => false) → Kp (fun _ => False) w w' → r = w.heap.size → Ops none P n ds all k Φ l ((d, .map (some r)) :: ρ) w') : Ops none P n ds all k Φ (o :: l) ρ w := by
  have hm := mk_alloc w (.map #[] 0)
  refine Ops.val hd hg (fun a hr => ?_) (hk _ _ ⟨#[], 0, [], hm.at_, rfl, fun _ => rfl⟩ hm.kp rfl)
  have hm' : (Instr.makeMap t none).run P w = .ok (.map (some w.heap.size)) (w.alloc (.map #[] 0)) := rfl
  simp [execOp, ho, hm']
theorem run_findKey_int {kt : Nat} {es : List MapEntry} {x : Int} {r : Option (Nat × Value)} (hu : P.underlying kt = some (.int .i64)) (h : Instr.findNow (.int .i64) (.int .i64 x) es 0 = some r) : (Instr.findKey kt (.int .i64 x) es).run P w = .ok r w := by
  simp [Instr.findKey, run_und hu, h]
theorem run_checkKey_int {kt : Nat} {x : Int} {b : Bool} (hu : P.underlying kt = some (.int .i64)) : (Instr.checkKey b 10000 kt (.int .i64 x)).run P w = .ok () w := by
  rw [show (10000 : Nat) = 9999 + 1 from rfl, Instr.checkKey]
  simp [run_und hu]
theorem run_getObj_m {r : Nat} {es : Array MapEntry} {c : Nat} (h : w.heap[r]? = some (.map es c)) : (getObj r).run P w = .ok (.map es c) w := by simp [getObj, Sem.run, h]
theorem run_setObj_m {r : Nat} {es : Array MapEntry} {c : Nat} (o : Obj) (h : w.heap[r]? = some (.map es c)) : (setObj r o).run P w = .ok () { w with heap := w.heap.setIfInBounds r o } := by simp [setObj, Sem.run, h]
theorem run_look {t kt et r : Nat} {x : Int} {f : Int → Bool} (ht : tyD P t = some (.map kt et)) (hk : tyD P kt = some (.int .i64)) (hz : tyZ P et = some (.bool false)) (hm : MapB w r f) : (Instr.lookup t (.map (some r)) (.int .i64 x) false).run P w = .ok (.bool (f x)) w := by
  obtain ⟨es, c, ks, hb, h1, h2⟩ := hm
  have hu := td_map (tyD_ok ht)
  have huk := td_int (tyD_ok hk)
  cases hf : ks.contains x with
  | true =>
    obtain ⟨j, _, h3, _⟩ := findNow_in (i := 0) h1 hf
    simp [Instr.lookup, run_und hu, run_getObj_m hb, run_checkKey_int huk, run_findKey_int huk h3, h2 x, by simpa using hf]
  | false =>
    have h3 := findNow_out (i := 0) h1 hf
    simp [Instr.lookup, run_und hu, run_getObj_m hb, run_checkKey_int huk, run_findKey_int huk h3, run_zeroV hz, h2 x, by simpa using hf]
/-- m[x] -/
theorem Ops.look {o : Oper} {d t kt et r : Nat} {x y : Operand} {i : Int} {f : Int → Bool} (ho : o.op = .lookup t x y false) (hd : o.dst = some d) (hg : o.guard = none)
    (ht : tyD P t = some (.map kt et)) (hkt : tyD P kt = some (.int .i64)) (hz : tyZ P et = some (.bool false)) (hx : ev ρ x = some (.map (some r))) (hy : ev ρ y = some (.int .i64 i)) (hm : MapB w r f)
    (hk : Ops md P n ds all k Φ l ((d, .bool (f i)) :: ρ) w) : Ops md P n ds all k Φ (o :: l) ρ w := by
  refine Ops.valS hd hg (fun a hr => ?_) hk
  simp [execOp, ho, hr.ev hx, hr.ev hy, run_look ht hkt hz hm]
theorem kp_setObj (r : Nat) (o : Obj) : Kp (fun i => i = r) w { w with heap := w.heap.setIfInBounds r o } :=
  ⟨rfl, rfl, rfl, by simp, fun i hi hn => by simp [Array.getElem?_setIfInBounds_ne (Ne.symm hn)]⟩
theorem run_stay {x : Int} : (Instr.keyThatStays (.int .i64 x) (.int .i64 x)).run P w = .ok (.int .i64 x) w := by
  unfold Instr.keyThatStays
  rw [if_pos (by rw [show (10000 : Nat) = 9999 + 1 from rfl, Instr.sameBits]; simp)]
  rfl
theorem run_put {t kt et r : Nat} {x : Int} {f : Int → Bool} (ht : tyD P t = some (.map kt et)) (hk : tyD P kt = some (.int .i64)) (hm : MapB w r f) :
    ∃ w', (Instr.mapUpdate t (.map (some r)) (.int .i64 x) (.bool true)).run P w = .ok () w' ∧ MapB w' r (fun k => f k || k == x) ∧ Kp (fun i => i = r) w w' ∧ w'.heap.size = w.heap.size := by
  obtain ⟨es, c, ks, hb, h1, h2⟩ := hm
  have hu := td_map (tyD_ok ht)
  have huk := td_int (tyD_ok hk)
  have hlt := (Array.getElem?_eq_some_iff.1 hb).1
  cases hf : ks.contains x with
  | true =>
    obtain ⟨j, _, h3, h4⟩ := findNow_in (i := 0) h1 hf
    rw [Nat.sub_zero, Array.getElem?_toList] at h4
    refine ⟨_, ?_, ?_, kp_setObj r (.map (es.modify j fun e => { e with key := .int .i64 x, val := .bool true }) c), by simp⟩
    · simp [Instr.mapUpdate, run_und hu, run_getObj_m hb, run_checkKey_int huk, run_findKey_int huk h3]
      rw [h4]
      simp [run_stay, run_setObj_m _ hb]
    · refine ⟨es.modify j fun e => { e with key := .int .i64 x, val := .bool true }, c, ks, by simp [hlt], ?_, fun k => ?_⟩
      · rw [← h1]
        apply List.ext_getElem?
        intro i
        simp only [List.getElem?_map, Array.getElem?_toList, Array.getElem?_modify]
        split
        · rename_i e
          subst e
          obtain ⟨hj1, hj2⟩ : ∃ e, es[j]? = some e ∧ e.key = .int .i64 x := by
            cases he : es[j]? with
            | none => rw [he] at h4; simp at h4
            | some e => rw [he] at h4; simp at h4; exact ⟨e, rfl, h4⟩
          have hv : (es.toList.map fun e => (e.key, e.val))[j]? = (ks.map kvI)[j]? := by rw [h1]
          simp only [List.getElem?_map, Array.getElem?_toList, hj2.1, Option.map_some] at hv
          rw [hj2.1]
          simp only [Option.map_some, Option.some.injEq]
          cases hq : ks[j]? with
          | none => rw [hq] at hv; simp at hv
          | some q => rw [hq] at hv; simp [kvI] at hv; rw [hj2.2, hv.2]
        · rfl
      · show (f k || k == x) = _
        rw [h2 k]
        by_cases e : k = x
        · subst e; simp [hf]; simpa using hf
        · simp [e]
  | false =>
    have h3 := findNow_out (i := 0) h1 hf
    refine ⟨_, ?_, ?_, kp_setObj r (.map (es.push { key := .int .i64 x, val := .bool true, born := c }) (c + 1)), by simp⟩
    · simp [Instr.mapUpdate, run_und hu, run_getObj_m hb, run_checkKey_int huk, run_findKey_int huk h3, run_setObj_m _ hb]
    · refine ⟨es.push { key := .int .i64 x, val := .bool true, born := c }, c + 1, ks ++ [x], by simp [hlt], by simp [h1, kvI], fun k => ?_⟩
      show (f k || k == x) = _
      rw [h2 k]
      simp [Bool.beq_eq_decide_eq]
/-- m[x] = true -/
theorem Ops.put {o : Oper} {t kt et r : Nat} {x y z : Operand} {i : Int} {f : Int → Bool} (ho : o.op = .mapUpdate t x y z) (hd : o.dst = none) (hg : o.guard = none)
    (ht : tyD P t = some (.map kt et)) (hkt : tyD P kt = some (.int .i64)) (hx : ev ρ x = some (.map (some r))) (hy : ev ρ y = some (.int .i64 i)) (hz : ev ρ z = some (.bool true)) (hm : MapB w r f)
    (hk : ∀ w', MapB w' r (fun k => f k || k == i) → Kp (fun i => i = r) w w' → w'.heap.size = w.heap.size → Ops none P n ds all k Φ l ρ w') : Ops none P n ds all k Φ (o :: l) ρ w := by
  obtain ⟨w', hrun, h1, h2, h3⟩ := run_put (x := i) ht hkt hm
  refine Ops.unit hg hd (fun a hr => ?_) (hk w' h1 h2 h3)
  simp [execOp, ho, hr.ev hx, hr.ev hy, hr.ev hz, hrun]
/-- A field of one cell of a struct that is no variable. -/
def plainField (P : Program) (t i : Nat) : Option Nat := match P.underlying t with
  | some (.struct gs) => match gs[i]? with
    | some f => match P.underlying f.type with
      | some (.struct _) => none
      | some (.array _ _) => none
      | some _ => some f.offset
      | none => none
    | none => none
  | _ => none
omit hT in
theorem run_field {t i off : Nat} {cs : Array Value} {v : Value} (h : plainField P t i = some off) (hv : cs[off]? = some v) : (Instr.field t (.agg cs) i).run P w = .ok v w := by
  unfold plainField at h
  cases hu : P.underlying t with
  | none => rw [hu] at h; simp at h
  | some d =>
    rw [hu] at h
    cases d with
    | struct gs =>
      simp only at h
      cases hf : gs[i]? with
      | none => rw [hf] at h; simp at h
      | some f =>
        rw [hf] at h
        simp only at h
        have hi : (isAgg f.type).run P w = .ok false w ∧ f.offset = off := by
          cases hu2 : P.underlying f.type with
          | none => rw [hu2] at h; simp at h
          | some d2 => rw [hu2] at h; cases d2 <;> simp at h <;> exact ⟨by simp [isAgg, underlying, hu2], h⟩
        simp [Instr.field, run_und hu, hf, asAgg, part, hi.1, hi.2, hv]
    | _ => simp at h
theorem Ops.fieldV {o : Oper} {d t i off : Nat} {x : Operand} {cs : Array Value} {v : Value} (ho : o.op = .field t x i) (hd : o.dst = some d) (hg : o.guard = none)
    (ht : plainField P t i = some off) (hx : ev ρ x = some (.agg cs)) (hv : nth cs.toList off = some v) (hk : Ops md P n ds all k Φ l ((d, v) :: ρ) w) : Ops md P n ds all k Φ (o :: l) ρ w := by
  refine Ops.valS hd hg (fun a hr => ?_) hk
  rw [nth_eq, Array.getElem?_toList] at hv
  simp [execOp, ho, hr.ev hx, run_field ht hv]
omit hT in
theorem W.label {i : Nat} (h : W P n ds k Φ ρ w) : W P n ds (.code (.label i) :: k) Φ ρ w := fun _ _ hr hd => wp_label ⟨ρ, hr, hd, h⟩
omit hT in
theorem Qof.goto_no (hΦ : ∀ l ρ w, ¬ Φ (.goto l) ρ w) : ∀ (k : List It) i ρ w, ¬ Qof P n ds Φ k (.goto i) ρ w := by
  intro k
  induction k with
  | nil => exact hΦ
  | cons x r ih => cases x <;> exact ih
omit hT in
/-- A scope in which nothing jumps. -/
theorem W.scope {c : Code} (hΦ : ∀ l ρ w, ¬ Φ (.goto l) ρ w) (h : W P n ds (.code c :: k) Φ ρ w) : W P n ds (.code (.scope c) :: k) Φ ρ w := by
  intro hi a hr hd
  refine wp_scope_straight (wp_mono (h (by simpa [inB] using hi) a hr hd) fun e a w hl => ?_)
  obtain ⟨ρ', hr', hd', hq⟩ := hl
  cases e with
  | goto i => exact absurd hq (Qof.goto_no hΦ k i ρ' w)
  | _ => exact ⟨ρ', hr', hd', hq⟩
end
end Go.Proofs.Ytdiljpnfochndaa.VW
