/- A part of the walk: what this seat's statements share. -/
import Derived.Test.YtdiljpnfochndaaZG7
set_option linter.unusedVariables false
set_option linter.unusedSimpArgs false
set_option linter.unusedSectionVars false
namespace Go.Proofs.Ytdiljpnfochndaa
open Go Go.RowKit Go.Proofs.Ytdiljpnfochndaa.VW
open Go.Proofs.Ytdiljpnfochndaa.HP (Nd kid wor leafB rd modM modM_bd tameM tame_TK gameOf gameOf_TF ValP far Ef NeedP TF)
attribute [local irreducible] W Ops
set_option maxRecDepth 100000 in
theorem numbersLaw_c {w : World} {pv wv ov : Value} {ps ws os : List Int} {b : Int} (hp : SlI w pv ps) (hw : SlI w wv ws) (ho : SlI w ov os) :
    Calls Try.prog 5 #[pv, wv, ov, .int .i64 b] w (Ret fun r w' => r = .bool true ∧ Below w.heap.size w w') := by
  refine calls_W (vs := [_, _, _, _]) Try.func5 rfl (by kernel_rfl) rfl ?_
  (repeat (first | with_reducible refine W.seq ?_ | with_reducible refine Ops.nil ?_ | with_reducible refine W.region ?_ | refine Ops.pu rfl rfl rfl ?_ | refine Ops.ar rfl rfl rfl (by omega) ?_ | refine Ops.yes rfl rfl rfl ?_ | refine Ops.no rfl rfl rfl rfl rfl ?_ | refine Ops.nu rfl rfl rfl rfl ?_ | with_reducible refine W.skip ?_ | with_reducible refine W.endb ?_ | with_reducible refine W.block ?_ | refine W.exit rfl ?_ | refine Ops.len rfl rfl rfl rfl rfl ?_ | refine Ops.flp rfl rfl rfl rfl rfl ?_ | refine Ops.max rfl rfl rfl rfl rfl ?_ | refine Ops.min rfl rfl rfl rfl rfl ?_ | refine Ops.eqB rfl rfl rfl rfl rfl rfl ?_ | refine Ops.neB rfl rfl rfl rfl rfl rfl ?_ | (apply Ops.ldB rfl rfl rfl rfl rfl; assumption; rfl)))
  refine Ops.call rfl rfl rfl rfl rfl (tame_c (most := 60) hp hw (by decide) (by decide)) (fun tv w1 hR => ?_)
  obtain ⟨hT1, hb1⟩ := hR
  have hTK := tame_TK (ps := ps) (ws := ws) (most := 60) (by decide) (by decide)
  generalize tameM ps ws 60 = l at *
  obtain ⟨dep, hg⟩ := hTK.game
  have hTF := gameOf_TF hg
  have hn60 := hTF.n60
  have hn1 := hTF.n1
  have hmb := modM_bd b (n := 201) (by omega)
  (repeat (first | with_reducible refine W.seq ?_ | with_reducible refine Ops.nil ?_ | with_reducible refine W.region ?_ | refine Ops.pu rfl rfl rfl ?_ | refine Ops.ar rfl rfl rfl (by omega) ?_ | refine Ops.yes rfl rfl rfl ?_ | refine Ops.no rfl rfl rfl rfl rfl ?_ | refine Ops.nu rfl rfl rfl rfl ?_ | with_reducible refine W.skip ?_ | with_reducible refine W.endb ?_ | with_reducible refine W.block ?_ | refine W.exit rfl ?_ | refine Ops.len rfl rfl rfl rfl rfl ?_ | refine Ops.flp rfl rfl rfl rfl rfl ?_ | refine Ops.max rfl rfl rfl rfl rfl ?_ | refine Ops.min rfl rfl rfl rfl rfl ?_ | refine Ops.eqB rfl rfl rfl rfl rfl rfl ?_ | refine Ops.neB rfl rfl rfl rfl rfl rfl ?_ | (apply Ops.ldB rfl rfl rfl rfl rfl; assumption; rfl)))
  refine Ops.callS rfl rfl rfl rfl rfl (mod_c _ _ _ (by decide) (by decide)) ?_
  generalize modM b 201 = b' at *
  obtain ⟨At, ct, rfl⟩ := hT1.sl
  obtain ⟨A2, c2, rfl⟩ := Sl.sl ho
  (repeat (first | with_reducible refine W.seq ?_ | with_reducible refine Ops.nil ?_ | with_reducible refine W.region ?_ | refine Ops.pu rfl rfl rfl ?_ | refine Ops.ar rfl rfl rfl (by omega) ?_ | refine Ops.yes rfl rfl rfl ?_ | refine Ops.no rfl rfl rfl rfl rfl ?_ | refine Ops.nu rfl rfl rfl rfl ?_ | with_reducible refine W.skip ?_ | with_reducible refine W.endb ?_ | with_reducible refine W.block ?_ | refine W.exit rfl ?_ | refine Ops.len rfl rfl rfl rfl rfl ?_ | refine Ops.flp rfl rfl rfl rfl rfl ?_ | refine Ops.max rfl rfl rfl rfl rfl ?_ | refine Ops.min rfl rfl rfl rfl rfl ?_ | refine Ops.eqB rfl rfl rfl rfl rfl rfl ?_ | refine Ops.neB rfl rfl rfl rfl rfl rfl ?_ | (apply Ops.ldB rfl rfl rfl rfl rfl; assumption; rfl)))
  refine W.loop (fun m ρ w3 => ∃ (j : Nat) (lv : Value), m = l.length - j ∧ j ≤ l.length ∧ ρ = [(2, .slice A2 os.length c2), (3, .int .i64 (b' - 100)), (9, .slice At l.length ct), (10, lv), (11, .int .i64 j)] ∧ FInv w1 w3 lv (pickL (fun i => leafB l i) j))
    ⟨_, _, ⟨0, _, rfl, Nat.zero_le _, rfl, FInv.nil (Below.refl _ _)⟩, (by repeat (first | exact trivial | refine And.intro rfl ?_))⟩ ?_
  rintro m ρ w3 ⟨j, lv, rfl, hj, rfl, hI⟩
  have hb3 := hI.bel
  have hpl := pickL_len (fun i => leafB l i) j
  (repeat (first | with_reducible refine W.seq ?_ | with_reducible refine Ops.nil ?_ | with_reducible refine W.region ?_ | refine Ops.pu rfl rfl rfl ?_ | refine Ops.ar rfl rfl rfl (by omega) ?_ | refine Ops.yes rfl rfl rfl ?_ | refine Ops.no rfl rfl rfl rfl rfl ?_ | refine Ops.nu rfl rfl rfl rfl ?_ | with_reducible refine W.skip ?_ | with_reducible refine W.endb ?_ | with_reducible refine W.block ?_ | refine W.exit rfl ?_ | refine Ops.len rfl rfl rfl rfl rfl ?_ | refine Ops.flp rfl rfl rfl rfl rfl ?_ | refine Ops.max rfl rfl rfl rfl rfl ?_ | refine Ops.min rfl rfl rfl rfl rfl ?_ | refine Ops.eqB rfl rfl rfl rfl rfl rfl ?_ | refine Ops.neB rfl rfl rfl rfl rfl rfl ?_ | (apply Ops.ldB rfl rfl rfl rfl rfl; assumption; rfl)))
  refine W.cond rfl (fun hc => ?_) (fun hc => ?_)
  · have hlt : j < l.length := by simp at hc; omega
    have hs := pickL_succ (fun i => leafB l i) j
    simp only [leafB_len] at hs
    (repeat (first | with_reducible refine W.seq ?_ | with_reducible refine Ops.nil ?_ | with_reducible refine W.region ?_ | refine Ops.pu rfl rfl rfl ?_ | refine Ops.ar rfl rfl rfl (by omega) ?_ | refine Ops.yes rfl rfl rfl ?_ | refine Ops.no rfl rfl rfl rfl rfl ?_ | refine Ops.nu rfl rfl rfl rfl ?_ | with_reducible refine W.skip ?_ | with_reducible refine W.endb ?_ | with_reducible refine W.block ?_ | refine W.exit rfl ?_ | refine Ops.len rfl rfl rfl rfl rfl ?_ | refine Ops.flp rfl rfl rfl rfl rfl ?_ | refine Ops.max rfl rfl rfl rfl rfl ?_ | refine Ops.min rfl rfl rfl rfl rfl ?_ | refine Ops.eqB rfl rfl rfl rfl rfl rfl ?_ | refine Ops.neB rfl rfl rfl rfl rfl rfl ?_ | (apply Ops.ldB rfl rfl rfl rfl rfl; assumption; rfl)))
    refine Ops.rdK rfl rfl rfl rfl rfl rfl rfl rfl rfl rfl rfl rfl rfl rfl rfl hT1 hb3 (by omega) (by omega) (fun cv p q hcv => ?_)
    obtain ⟨Ac, cc, rfl⟩ := Sl.sl hcv
    (repeat (first | with_reducible refine W.seq ?_ | with_reducible refine Ops.nil ?_ | with_reducible refine W.region ?_ | refine Ops.pu rfl rfl rfl ?_ | refine Ops.ar rfl rfl rfl (by omega) ?_ | refine Ops.yes rfl rfl rfl ?_ | refine Ops.no rfl rfl rfl rfl rfl ?_ | refine Ops.nu rfl rfl rfl rfl ?_ | with_reducible refine W.skip ?_ | with_reducible refine W.endb ?_ | with_reducible refine W.block ?_ | refine W.exit rfl ?_ | refine Ops.len rfl rfl rfl rfl rfl ?_ | refine Ops.flp rfl rfl rfl rfl rfl ?_ | refine Ops.max rfl rfl rfl rfl rfl ?_ | refine Ops.min rfl rfl rfl rfl rfl ?_ | refine Ops.eqB rfl rfl rfl rfl rfl rfl ?_ | refine Ops.neB rfl rfl rfl rfl rfl rfl ?_ | (apply Ops.ldB rfl rfl rfl rfl rfl; assumption; rfl)))
    refine W.cond rfl (fun hc2 => ?_) (fun hc2 => ?_)
    · rw [hc2, if_pos rfl] at hs
      (repeat (first | with_reducible refine W.seq ?_ | with_reducible refine Ops.nil ?_ | with_reducible refine W.region ?_ | refine Ops.pu rfl rfl rfl ?_ | refine Ops.ar rfl rfl rfl (by omega) ?_ | refine Ops.yes rfl rfl rfl ?_ | refine Ops.no rfl rfl rfl rfl rfl ?_ | refine Ops.nu rfl rfl rfl rfl ?_ | with_reducible refine W.skip ?_ | with_reducible refine W.endb ?_ | with_reducible refine W.block ?_ | refine W.exit rfl ?_ | refine Ops.len rfl rfl rfl rfl rfl ?_ | refine Ops.flp rfl rfl rfl rfl rfl ?_ | refine Ops.max rfl rfl rfl rfl rfl ?_ | refine Ops.min rfl rfl rfl rfl rfl ?_ | refine Ops.eqB rfl rfl rfl rfl rfl rfl ?_ | refine Ops.neB rfl rfl rfl rfl rfl rfl ?_ | (apply Ops.ldB rfl rfl rfl rfl rfl; assumption; rfl)))
      refine Ops.push rfl rfl rfl rfl rfl rfl rfl rfl rfl rfl rfl rfl (fun _ => rfl) rfl hI.own (by omega) (fun lv' p w5 ho5 k5 hn5 => ?_)
      have hI5 := hI.push ho5 k5 hn5
      simp only [leafB_len] at hI5
      rw [← hs] at hI5
      simp only [← leafB_len] at hI5
      (repeat (first | with_reducible refine W.seq ?_ | with_reducible refine Ops.nil ?_ | with_reducible refine W.region ?_ | refine Ops.pu rfl rfl rfl ?_ | refine Ops.ar rfl rfl rfl (by omega) ?_ | refine Ops.yes rfl rfl rfl ?_ | refine Ops.no rfl rfl rfl rfl rfl ?_ | refine Ops.nu rfl rfl rfl rfl ?_ | with_reducible refine W.skip ?_ | with_reducible refine W.endb ?_ | with_reducible refine W.block ?_ | refine W.exit rfl ?_ | refine Ops.len rfl rfl rfl rfl rfl ?_ | refine Ops.flp rfl rfl rfl rfl rfl ?_ | refine Ops.max rfl rfl rfl rfl rfl ?_ | refine Ops.min rfl rfl rfl rfl rfl ?_ | refine Ops.eqB rfl rfl rfl rfl rfl rfl ?_ | refine Ops.neB rfl rfl rfl rfl rfl rfl ?_ | (apply Ops.ldB rfl rfl rfl rfl rfl; assumption; rfl)))
      exact W.endl ⟨_, _, ⟨⟨j + 1, _, rfl, by omega, rfl, hI5⟩, by omega⟩, (by repeat (first | exact trivial | refine And.intro rfl ?_))⟩
    · rw [hc2, if_neg (by simp), List.append_nil] at hs
      have hI5 := hI
      simp only [leafB_len] at hI5
      rw [← hs] at hI5
      simp only [← leafB_len] at hI5
      (repeat (first | with_reducible refine W.seq ?_ | with_reducible refine Ops.nil ?_ | with_reducible refine W.region ?_ | refine Ops.pu rfl rfl rfl ?_ | refine Ops.ar rfl rfl rfl (by omega) ?_ | refine Ops.yes rfl rfl rfl ?_ | refine Ops.no rfl rfl rfl rfl rfl ?_ | refine Ops.nu rfl rfl rfl rfl ?_ | with_reducible refine W.skip ?_ | with_reducible refine W.endb ?_ | with_reducible refine W.block ?_ | refine W.exit rfl ?_ | refine Ops.len rfl rfl rfl rfl rfl ?_ | refine Ops.flp rfl rfl rfl rfl rfl ?_ | refine Ops.max rfl rfl rfl rfl rfl ?_ | refine Ops.min rfl rfl rfl rfl rfl ?_ | refine Ops.eqB rfl rfl rfl rfl rfl rfl ?_ | refine Ops.neB rfl rfl rfl rfl rfl rfl ?_ | (apply Ops.ldB rfl rfl rfl rfl rfl; assumption; rfl)))
      exact W.endl ⟨_, _, ⟨⟨j + 1, _, rfl, by omega, rfl, hI5⟩, by omega⟩, (by repeat (first | exact trivial | refine And.intro rfl ?_))⟩
  · have hlt : j = l.length := by simp at hc; omega
    subst hlt
    have hT3 := hT1.below hb3
    have hb03 := hb1.trans (hb3.mono hb1.size)
    have hla : Listed l (pickL (fun i => leafB l i) l.length) := pickL_listed fun i _ h => h
    have hall : ∀ i : Nat, i < l.length → leafB l i = true → (i : Int) ∈ pickL (fun i => leafB l i) l.length := fun i hi hl => pickL_mem.2 ⟨i, hi, hl, rfl⟩
    generalize pickL (fun i => leafB l i) l.length = S at *
    (repeat (first | with_reducible refine W.seq ?_ | with_reducible refine Ops.nil ?_ | with_reducible refine W.region ?_ | refine Ops.pu rfl rfl rfl ?_ | refine Ops.ar rfl rfl rfl (by omega) ?_ | refine Ops.yes rfl rfl rfl ?_ | refine Ops.no rfl rfl rfl rfl rfl ?_ | refine Ops.nu rfl rfl rfl rfl ?_ | with_reducible refine W.skip ?_ | with_reducible refine W.endb ?_ | with_reducible refine W.block ?_ | refine W.exit rfl ?_ | refine Ops.len rfl rfl rfl rfl rfl ?_ | refine Ops.flp rfl rfl rfl rfl rfl ?_ | refine Ops.max rfl rfl rfl rfl rfl ?_ | refine Ops.min rfl rfl rfl rfl rfl ?_ | refine Ops.eqB rfl rfl rfl rfl rfl rfl ?_ | refine Ops.neB rfl rfl rfl rfl rfl rfl ?_ | (apply Ops.ldB rfl rfl rfl rfl rfl; assumption; rfl)))
    refine Ops.call rfl rfl rfl rfl rfl (value_c hT3 (by omega)) (fun r w4 hR => ?_)
    obtain ⟨hb4, hR⟩ := hR
    rw [hg] at hR
    obtain ⟨vs, hvs, rfl⟩ := hR
    have hb04 := hb03.trans (hb4.mono hb03.size)
    have hT4 := hT3.below hb4
    (repeat (first | with_reducible refine W.seq ?_ | with_reducible refine Ops.nil ?_ | with_reducible refine W.region ?_ | refine Ops.pu rfl rfl rfl ?_ | refine Ops.ar rfl rfl rfl (by omega) ?_ | refine Ops.yes rfl rfl rfl ?_ | refine Ops.no rfl rfl rfl rfl rfl ?_ | refine Ops.nu rfl rfl rfl rfl ?_ | with_reducible refine W.skip ?_ | with_reducible refine W.endb ?_ | with_reducible refine W.block ?_ | refine W.exit rfl ?_ | refine Ops.len rfl rfl rfl rfl rfl ?_ | refine Ops.flp rfl rfl rfl rfl rfl ?_ | refine Ops.max rfl rfl rfl rfl rfl ?_ | refine Ops.min rfl rfl rfl rfl rfl ?_ | refine Ops.eqB rfl rfl rfl rfl rfl rfl ?_ | refine Ops.neB rfl rfl rfl rfl rfl rfl ?_ | (apply Ops.ldB rfl rfl rfl rfl rfl; assumption; rfl)))
    refine Ops.call rfl rfl rfl rfl rfl (numbers_c hT4 (by omega) (Sl.below hI.sl hb4)) (fun r w5 hR => ?_)
    obtain ⟨hb5, hR⟩ := hR
    unfold NumbersR at hR
    rw [if_pos ⟨hla, by omega⟩, hg] at hR
    obtain ⟨x, y, hx, hy, rfl⟩ := hR
    have hb05 := hb04.trans (hb5.mono hb04.size)
    have hT5 := hT4.below hb5
    obtain ⟨hA1, hA2⟩ := num_all hTF hall hx hvs
    have hA3 := num_facts hTF hx hy
    generalize vs.getD 0 0 = v at *
    (repeat (first | with_reducible refine W.seq ?_ | with_reducible refine Ops.nil ?_ | with_reducible refine W.region ?_ | refine Ops.pu rfl rfl rfl ?_ | refine Ops.ar rfl rfl rfl (by omega) ?_ | refine Ops.yes rfl rfl rfl ?_ | refine Ops.no rfl rfl rfl rfl rfl ?_ | refine Ops.nu rfl rfl rfl rfl ?_ | with_reducible refine W.skip ?_ | with_reducible refine W.endb ?_ | with_reducible refine W.block ?_ | refine W.exit rfl ?_ | refine Ops.len rfl rfl rfl rfl rfl ?_ | refine Ops.flp rfl rfl rfl rfl rfl ?_ | refine Ops.max rfl rfl rfl rfl rfl ?_ | refine Ops.min rfl rfl rfl rfl rfl ?_ | refine Ops.eqB rfl rfl rfl rfl rfl rfl ?_ | refine Ops.neB rfl rfl rfl rfl rfl rfl ?_ | (apply Ops.ldB rfl rfl rfl rfl rfl; assumption; rfl)))
    refine Ops.cut (fun ρ w' => ρ = [(2, .slice A2 os.length c2), (3, .int .i64 (b' - 100)), (9, .slice At l.length ct), (93, .bool false)] ∧ w' = w5) ?_ ?_
    · rcases Int.lt_or_le v (b' - 100) with h | h
      · have e1 := hA2 h
        have e2 := hA3.2.1.2 e1
        subst e1 e2
        (repeat (first | with_reducible refine W.seq ?_ | with_reducible refine Ops.nil ?_ | with_reducible refine W.region ?_ | refine Ops.pu rfl rfl rfl ?_ | refine Ops.ar rfl rfl rfl (by omega) ?_ | refine Ops.yes rfl rfl rfl ?_ | refine Ops.no rfl rfl rfl rfl rfl ?_ | refine Ops.nu rfl rfl rfl rfl ?_ | with_reducible refine W.skip ?_ | with_reducible refine W.endb ?_ | with_reducible refine W.block ?_ | refine W.exit rfl ?_ | refine Ops.len rfl rfl rfl rfl rfl ?_ | refine Ops.flp rfl rfl rfl rfl rfl ?_ | refine Ops.max rfl rfl rfl rfl rfl ?_ | refine Ops.min rfl rfl rfl rfl rfl ?_ | refine Ops.eqB rfl rfl rfl rfl rfl rfl ?_ | refine Ops.neB rfl rfl rfl rfl rfl rfl ?_ | (apply Ops.ldB rfl rfl rfl rfl rfl; assumption; rfl) | refine Ops.noB rfl rfl rfl rfl (by first | (simp; done) | (simp; omega)) ?_ | refine Ops.yesB rfl rfl rfl rfl (by first | (simp; done) | (simp; omega)) ?_))
        exact W.endl ⟨_, ⟨rfl, rfl⟩, (by repeat (first | exact trivial | refine And.intro rfl ?_))⟩
      · have e1 := hA1 h
        have e2 := hA3.1.1 e1
        subst e1 e2
        (repeat (first | with_reducible refine W.seq ?_ | with_reducible refine Ops.nil ?_ | with_reducible refine W.region ?_ | refine Ops.pu rfl rfl rfl ?_ | refine Ops.ar rfl rfl rfl (by omega) ?_ | refine Ops.yes rfl rfl rfl ?_ | refine Ops.no rfl rfl rfl rfl rfl ?_ | refine Ops.nu rfl rfl rfl rfl ?_ | with_reducible refine W.skip ?_ | with_reducible refine W.endb ?_ | with_reducible refine W.block ?_ | refine W.exit rfl ?_ | refine Ops.len rfl rfl rfl rfl rfl ?_ | refine Ops.flp rfl rfl rfl rfl rfl ?_ | refine Ops.max rfl rfl rfl rfl rfl ?_ | refine Ops.min rfl rfl rfl rfl rfl ?_ | refine Ops.eqB rfl rfl rfl rfl rfl rfl ?_ | refine Ops.neB rfl rfl rfl rfl rfl rfl ?_ | (apply Ops.ldB rfl rfl rfl rfl rfl; assumption; rfl) | refine Ops.noB rfl rfl rfl rfl (by first | (simp; done) | (simp; omega)) ?_ | refine Ops.yesB rfl rfl rfl rfl (by first | (simp; done) | (simp; omega)) ?_))
        exact W.endl ⟨_, ⟨rfl, rfl⟩, (by repeat (first | exact trivial | refine And.intro rfl ?_))⟩
    rintro ρ w6 ⟨rfl, rfl⟩
    refine W.cond rfl (fun hc => ?_) (fun hc => ?_)
    · simp at hc
    (repeat (first | with_reducible refine W.seq ?_ | with_reducible refine Ops.nil ?_ | with_reducible refine W.region ?_ | refine Ops.pu rfl rfl rfl ?_ | refine Ops.ar rfl rfl rfl (by omega) ?_ | refine Ops.yes rfl rfl rfl ?_ | refine Ops.no rfl rfl rfl rfl rfl ?_ | refine Ops.nu rfl rfl rfl rfl ?_ | with_reducible refine W.skip ?_ | with_reducible refine W.endb ?_ | with_reducible refine W.block ?_ | refine W.exit rfl ?_ | refine Ops.len rfl rfl rfl rfl rfl ?_ | refine Ops.flp rfl rfl rfl rfl rfl ?_ | refine Ops.max rfl rfl rfl rfl rfl ?_ | refine Ops.min rfl rfl rfl rfl rfl ?_ | refine Ops.eqB rfl rfl rfl rfl rfl rfl ?_ | refine Ops.neB rfl rfl rfl rfl rfl rfl ?_ | (apply Ops.ldB rfl rfl rfl rfl rfl; assumption; rfl)))
    refine Ops.call rfl rfl rfl rfl rfl (some_c hT5 hn60 (Sl.below ho hb05)) (fun sv w7 hI7 => ?_)
    have hls : Listed l (pickL (someP l os) l.length) := pickL_listed fun i _ h => by simp only [someP, Bool.and_eq_true] at h; exact h.1.1
    have hup := pickL_up (someP l os) l.length
    have hmem : ∀ x ∈ pickL (someP l os) l.length, 0 ≤ x ∧ x < l.length ∧ leafB l x = true := fun x hx => by
      obtain ⟨i, h1, h2, rfl⟩ := pickL_mem.1 hx
      simp only [someP, Bool.and_eq_true] at h2
      exact ⟨by omega, by omega, h2.1.1⟩
    generalize pickL (someP l os) l.length = S2 at *
    have hcap : ∀ A k c, sv = .slice A k c → k ≤ c := fun A k c e => by have h := hI7.own; rw [e] at h; exact own_cap h
    have hsl7 := hI7.sl
    obtain ⟨As, cs, rfl⟩ := Sl.sl hsl7
    have hcap := hcap _ _ _ rfl
    have hb07 := hb05.trans (hI7.bel.mono hb05.size)
    have hT7 := hT5.below hI7.bel
    (repeat (first | with_reducible refine W.seq ?_ | with_reducible refine Ops.nil ?_ | with_reducible refine W.region ?_ | refine Ops.pu rfl rfl rfl ?_ | refine Ops.ar rfl rfl rfl (by omega) ?_ | refine Ops.yes rfl rfl rfl ?_ | refine Ops.no rfl rfl rfl rfl rfl ?_ | refine Ops.nu rfl rfl rfl rfl ?_ | with_reducible refine W.skip ?_ | with_reducible refine W.endb ?_ | with_reducible refine W.block ?_ | refine W.exit rfl ?_ | refine Ops.len rfl rfl rfl rfl rfl ?_ | refine Ops.flp rfl rfl rfl rfl rfl ?_ | refine Ops.max rfl rfl rfl rfl rfl ?_ | refine Ops.min rfl rfl rfl rfl rfl ?_ | refine Ops.eqB rfl rfl rfl rfl rfl rfl ?_ | refine Ops.neB rfl rfl rfl rfl rfl rfl ?_ | (apply Ops.ldB rfl rfl rfl rfl rfl; assumption; rfl)))
    refine Ops.call rfl rfl rfl rfl rfl (numbers_c hT7 (by omega) hsl7) (fun r w8 hR => ?_)
    obtain ⟨hb8, hR⟩ := hR
    unfold NumbersR at hR
    rw [if_pos ⟨hls, by omega⟩, hg] at hR
    obtain ⟨p, q, hp2, hq2, rfl⟩ := hR
    have hb08 := hb07.trans (hb8.mono hb07.size)
    have hT8 := hT7.below hb8
    have hsl8 := Sl.below hsl7 hb8
    (repeat (first | with_reducible refine W.seq ?_ | with_reducible refine Ops.nil ?_ | with_reducible refine W.region ?_ | refine Ops.pu rfl rfl rfl ?_ | refine Ops.ar rfl rfl rfl (by omega) ?_ | refine Ops.yes rfl rfl rfl ?_ | refine Ops.no rfl rfl rfl rfl rfl ?_ | refine Ops.nu rfl rfl rfl rfl ?_ | with_reducible refine W.skip ?_ | with_reducible refine W.endb ?_ | with_reducible refine W.block ?_ | refine W.exit rfl ?_ | refine Ops.len rfl rfl rfl rfl rfl ?_ | refine Ops.flp rfl rfl rfl rfl rfl ?_ | refine Ops.max rfl rfl rfl rfl rfl ?_ | refine Ops.min rfl rfl rfl rfl rfl ?_ | refine Ops.eqB rfl rfl rfl rfl rfl rfl ?_ | refine Ops.neB rfl rfl rfl rfl rfl rfl ?_ | (apply Ops.ldB rfl rfl rfl rfl rfl; assumption; rfl)))
    refine Ops.call rfl rfl rfl rfl rfl (decides_c hT8 (by omega) hsl8) (fun r w9 hR => ?_)
    obtain ⟨hb9, hR⟩ := hR
    unfold DecR at hR
    rw [if_pos ⟨hls, by omega⟩, hg] at hR
    obtain ⟨ds, hds, rfl⟩ := hR
    have hb09 := hb08.trans (hb9.mono hb08.size)
    have hT9 := hT8.below hb9
    have hsl9 := Sl.below hsl8 hb9
    have hB1 := num_dec hTF (by omega) hp2 hds
    have hB2 := num_facts hTF hp2 hq2
    generalize ds.getD 0 0 = dv at *
    have hB3 : decide (b' - 100 ≤ dv) = decide (p = 0) := by rw [decide_eq_decide]; exact hB1.symm
    rw [hB3]
    clear hB3
    (repeat (first | with_reducible refine W.seq ?_ | with_reducible refine Ops.nil ?_ | with_reducible refine W.region ?_ | refine Ops.pu rfl rfl rfl ?_ | refine Ops.ar rfl rfl rfl (by omega) ?_ | refine Ops.yes rfl rfl rfl ?_ | refine Ops.no rfl rfl rfl rfl rfl ?_ | refine Ops.nu rfl rfl rfl rfl ?_ | with_reducible refine W.skip ?_ | with_reducible refine W.endb ?_ | with_reducible refine W.block ?_ | refine W.exit rfl ?_ | refine Ops.len rfl rfl rfl rfl rfl ?_ | refine Ops.flp rfl rfl rfl rfl rfl ?_ | refine Ops.max rfl rfl rfl rfl rfl ?_ | refine Ops.min rfl rfl rfl rfl rfl ?_ | refine Ops.eqB rfl rfl rfl rfl rfl rfl ?_ | refine Ops.neB rfl rfl rfl rfl rfl rfl ?_ | (apply Ops.ldB rfl rfl rfl rfl rfl; assumption; rfl)))
    refine Ops.cut (fun ρ w' => ρ = [(3, .int .i64 (b' - 100)), (9, .slice At l.length ct), (17, .slice As S2.length cs), (18, .int .i64 p), (19, .int .i64 q), (146, .bool false)] ∧ w' = w9) ?_ ?_
    · rcases Int.lt_trichotomy p 0 with h | h | h
      · have e1 : p = -1 := by omega
        have e2 : q = 0 := hB2.2.1.2 e1
        subst e1 e2
        (repeat (first | with_reducible refine W.seq ?_ | with_reducible refine Ops.nil ?_ | with_reducible refine W.region ?_ | refine Ops.pu rfl rfl rfl ?_ | refine Ops.ar rfl rfl rfl (by omega) ?_ | refine Ops.yes rfl rfl rfl ?_ | refine Ops.no rfl rfl rfl rfl rfl ?_ | refine Ops.nu rfl rfl rfl rfl ?_ | with_reducible refine W.skip ?_ | with_reducible refine W.endb ?_ | with_reducible refine W.block ?_ | refine W.exit rfl ?_ | refine Ops.len rfl rfl rfl rfl rfl ?_ | refine Ops.flp rfl rfl rfl rfl rfl ?_ | refine Ops.max rfl rfl rfl rfl rfl ?_ | refine Ops.min rfl rfl rfl rfl rfl ?_ | refine Ops.eqB rfl rfl rfl rfl rfl rfl ?_ | refine Ops.neB rfl rfl rfl rfl rfl rfl ?_ | (apply Ops.ldB rfl rfl rfl rfl rfl; assumption; rfl) | refine Ops.noB rfl rfl rfl rfl (by first | (simp; done) | (simp; omega)) ?_ | refine Ops.yesB rfl rfl rfl rfl (by first | (simp; done) | (simp; omega)) ?_))
        exact W.endl ⟨_, ⟨rfl, rfl⟩, (by repeat (first | exact trivial | refine And.intro rfl ?_))⟩
      · have e2 := hB2.1.1 h
        subst h e2
        (repeat (first | with_reducible refine W.seq ?_ | with_reducible refine Ops.nil ?_ | with_reducible refine W.region ?_ | refine Ops.pu rfl rfl rfl ?_ | refine Ops.ar rfl rfl rfl (by omega) ?_ | refine Ops.yes rfl rfl rfl ?_ | refine Ops.no rfl rfl rfl rfl rfl ?_ | refine Ops.nu rfl rfl rfl rfl ?_ | with_reducible refine W.skip ?_ | with_reducible refine W.endb ?_ | with_reducible refine W.block ?_ | refine W.exit rfl ?_ | refine Ops.len rfl rfl rfl rfl rfl ?_ | refine Ops.flp rfl rfl rfl rfl rfl ?_ | refine Ops.max rfl rfl rfl rfl rfl ?_ | refine Ops.min rfl rfl rfl rfl rfl ?_ | refine Ops.eqB rfl rfl rfl rfl rfl rfl ?_ | refine Ops.neB rfl rfl rfl rfl rfl rfl ?_ | (apply Ops.ldB rfl rfl rfl rfl rfl; assumption; rfl) | refine Ops.noB rfl rfl rfl rfl (by first | (simp; done) | (simp; omega)) ?_ | refine Ops.yesB rfl rfl rfl rfl (by first | (simp; done) | (simp; omega)) ?_))
        exact W.endl ⟨_, ⟨rfl, rfl⟩, (by repeat (first | exact trivial | refine And.intro rfl ?_))⟩
      · have e1 : decide (p = 0) = false := by simp; omega
        have e2 : 0 < q := by omega
        rw [e1]
        (repeat (first | with_reducible refine W.seq ?_ | with_reducible refine Ops.nil ?_ | with_reducible refine W.region ?_ | refine Ops.pu rfl rfl rfl ?_ | refine Ops.ar rfl rfl rfl (by omega) ?_ | refine Ops.yes rfl rfl rfl ?_ | refine Ops.no rfl rfl rfl rfl rfl ?_ | refine Ops.nu rfl rfl rfl rfl ?_ | with_reducible refine W.skip ?_ | with_reducible refine W.endb ?_ | with_reducible refine W.block ?_ | refine W.exit rfl ?_ | refine Ops.len rfl rfl rfl rfl rfl ?_ | refine Ops.flp rfl rfl rfl rfl rfl ?_ | refine Ops.max rfl rfl rfl rfl rfl ?_ | refine Ops.min rfl rfl rfl rfl rfl ?_ | refine Ops.eqB rfl rfl rfl rfl rfl rfl ?_ | refine Ops.neB rfl rfl rfl rfl rfl rfl ?_ | (apply Ops.ldB rfl rfl rfl rfl rfl; assumption; rfl) | refine Ops.noB rfl rfl rfl rfl (by first | (simp; done) | (simp; omega)) ?_ | refine Ops.yesB rfl rfl rfl rfl (by first | (simp; done) | (simp; omega)) ?_))
        exact W.endl ⟨_, ⟨rfl, rfl⟩, (by repeat (first | exact trivial | refine And.intro rfl ?_))⟩
    rintro ρ w10 ⟨rfl, rfl⟩
    refine W.cond rfl (fun hc => ?_) (fun hc => ?_)
    · simp at hc
    (repeat (first | with_reducible refine W.seq ?_ | with_reducible refine Ops.nil ?_ | with_reducible refine W.region ?_ | refine Ops.pu rfl rfl rfl ?_ | refine Ops.ar rfl rfl rfl (by omega) ?_ | refine Ops.yes rfl rfl rfl ?_ | refine Ops.no rfl rfl rfl rfl rfl ?_ | refine Ops.nu rfl rfl rfl rfl ?_ | with_reducible refine W.skip ?_ | with_reducible refine W.endb ?_ | with_reducible refine W.block ?_ | refine W.exit rfl ?_ | refine Ops.len rfl rfl rfl rfl rfl ?_ | refine Ops.flp rfl rfl rfl rfl rfl ?_ | refine Ops.max rfl rfl rfl rfl rfl ?_ | refine Ops.min rfl rfl rfl rfl rfl ?_ | refine Ops.eqB rfl rfl rfl rfl rfl rfl ?_ | refine Ops.neB rfl rfl rfl rfl rfl rfl ?_ | (apply Ops.ldB rfl rfl rfl rfl rfl; assumption; rfl)))
    refine W.cond rfl (fun hc => ?_) (fun hc => ?_)
    · have hnil : S2 = [] := List.length_eq_zero_iff.1 (by simpa using hc)
      subst hnil
      have n1 := num_none hTF hp2
      have n2 := num_none hTF hq2
      have hp0 : 0 < p := by omega
      have hq0 : 0 < q := by omega
      (repeat (first | with_reducible refine W.seq ?_ | with_reducible refine Ops.nil ?_ | with_reducible refine W.region ?_ | refine Ops.pu rfl rfl rfl ?_ | refine Ops.ar rfl rfl rfl (by omega) ?_ | refine Ops.yes rfl rfl rfl ?_ | refine Ops.no rfl rfl rfl rfl rfl ?_ | refine Ops.nu rfl rfl rfl rfl ?_ | with_reducible refine W.skip ?_ | with_reducible refine W.endb ?_ | with_reducible refine W.block ?_ | refine W.exit rfl ?_ | refine Ops.len rfl rfl rfl rfl rfl ?_ | refine Ops.flp rfl rfl rfl rfl rfl ?_ | refine Ops.max rfl rfl rfl rfl rfl ?_ | refine Ops.min rfl rfl rfl rfl rfl ?_ | refine Ops.eqB rfl rfl rfl rfl rfl rfl ?_ | refine Ops.neB rfl rfl rfl rfl rfl rfl ?_ | (apply Ops.ldB rfl rfl rfl rfl rfl; assumption; rfl) | refine Ops.noB rfl rfl rfl rfl (by first | (simp; done) | (simp; omega)) ?_ | refine Ops.yesB rfl rfl rfl rfl (by first | (simp; done) | (simp; omega)) ?_))
      refine Ops.call rfl rfl rfl rfl rfl (awake_c _) (fun r w11 hR => ?_)
      obtain ⟨rfl, hb11⟩ := hR
      (repeat (first | with_reducible refine W.seq ?_ | with_reducible refine Ops.nil ?_ | with_reducible refine W.region ?_ | refine Ops.pu rfl rfl rfl ?_ | refine Ops.ar rfl rfl rfl (by omega) ?_ | refine Ops.yes rfl rfl rfl ?_ | refine Ops.no rfl rfl rfl rfl rfl ?_ | refine Ops.nu rfl rfl rfl rfl ?_ | with_reducible refine W.skip ?_ | with_reducible refine W.endb ?_ | with_reducible refine W.block ?_ | refine W.exit rfl ?_ | refine Ops.len rfl rfl rfl rfl rfl ?_ | refine Ops.flp rfl rfl rfl rfl rfl ?_ | refine Ops.max rfl rfl rfl rfl rfl ?_ | refine Ops.min rfl rfl rfl rfl rfl ?_ | refine Ops.eqB rfl rfl rfl rfl rfl rfl ?_ | refine Ops.neB rfl rfl rfl rfl rfl rfl ?_ | (apply Ops.ldB rfl rfl rfl rfl rfl; assumption; rfl) | refine Ops.noB rfl rfl rfl rfl (by first | (simp; done) | (simp; omega)) ?_ | refine Ops.yesB rfl rfl rfl rfl (by first | (simp; done) | (simp; omega)) ?_))
      exact W.fret rfl ⟨rfl, hb09.trans (hb11.mono hb09.size)⟩
    · have hne : 0 < S2.length := Nat.pos_of_ne_zero (fun e => by rw [e] at hc; simp at hc)
      have hls1 : Listed l (S2.drop 1) := up_listed (hup.sublist (List.drop_sublist 1 S2)) fun x hx => hmem x (List.mem_of_mem_drop hx)
      (repeat (first | with_reducible refine W.seq ?_ | with_reducible refine Ops.nil ?_ | with_reducible refine W.region ?_ | refine Ops.pu rfl rfl rfl ?_ | refine Ops.ar rfl rfl rfl (by omega) ?_ | refine Ops.yes rfl rfl rfl ?_ | refine Ops.no rfl rfl rfl rfl rfl ?_ | refine Ops.nu rfl rfl rfl rfl ?_ | with_reducible refine W.skip ?_ | with_reducible refine W.endb ?_ | with_reducible refine W.block ?_ | refine W.exit rfl ?_ | refine Ops.len rfl rfl rfl rfl rfl ?_ | refine Ops.flp rfl rfl rfl rfl rfl ?_ | refine Ops.max rfl rfl rfl rfl rfl ?_ | refine Ops.min rfl rfl rfl rfl rfl ?_ | refine Ops.eqB rfl rfl rfl rfl rfl rfl ?_ | refine Ops.neB rfl rfl rfl rfl rfl rfl ?_ | (apply Ops.ldB rfl rfl rfl rfl rfl; assumption; rfl)))
      refine Ops.slL (m := S2.length) (h := 1) rfl rfl rfl rfl rfl rfl rfl (by decide) (by omega) hcap (fun A' c' hA' => ?_)
      have hsl1 := sl_drop (h := 1) (c' := c') hsl9 hA'
      (repeat (first | with_reducible refine W.seq ?_ | with_reducible refine Ops.nil ?_ | with_reducible refine W.region ?_ | refine Ops.pu rfl rfl rfl ?_ | refine Ops.ar rfl rfl rfl (by omega) ?_ | refine Ops.yes rfl rfl rfl ?_ | refine Ops.no rfl rfl rfl rfl rfl ?_ | refine Ops.nu rfl rfl rfl rfl ?_ | with_reducible refine W.skip ?_ | with_reducible refine W.endb ?_ | with_reducible refine W.block ?_ | refine W.exit rfl ?_ | refine Ops.len rfl rfl rfl rfl rfl ?_ | refine Ops.flp rfl rfl rfl rfl rfl ?_ | refine Ops.max rfl rfl rfl rfl rfl ?_ | refine Ops.min rfl rfl rfl rfl rfl ?_ | refine Ops.eqB rfl rfl rfl rfl rfl rfl ?_ | refine Ops.neB rfl rfl rfl rfl rfl rfl ?_ | (apply Ops.ldB rfl rfl rfl rfl rfl; assumption; rfl)))
      refine Ops.call rfl rfl rfl rfl rfl (numbers_c hT9 (by omega) hsl1) (fun r w11 hR => ?_)
      obtain ⟨hb11, hR⟩ := hR
      unfold NumbersR at hR
      rw [if_pos ⟨hls1, by omega⟩, hg] at hR
      obtain ⟨u, z, hu, hz, rfl⟩ := hR
      have hb011 := hb09.trans (hb11.mono hb09.size)
      have hC1 := num_facts hTF hu hz
      have hC2 := num_mono hTF hu hp2 fun x hx => List.mem_of_mem_drop hx
      have hC3 := num_mono hTF hz hq2 fun x hx => List.mem_of_mem_drop hx
      rcases Int.lt_trichotomy u 0 with h | h | h
      · have e1 : u = -1 := by omega
        have e2 : z = 0 := hC1.2.1.2 e1
        have e3 := hC3 e2
        have e4 := hB2.2.1.1 e3
        subst e1 e2 e3 e4
        (repeat (first | with_reducible refine W.seq ?_ | with_reducible refine Ops.nil ?_ | with_reducible refine W.region ?_ | refine Ops.pu rfl rfl rfl ?_ | refine Ops.ar rfl rfl rfl (by omega) ?_ | refine Ops.yes rfl rfl rfl ?_ | refine Ops.no rfl rfl rfl rfl rfl ?_ | refine Ops.nu rfl rfl rfl rfl ?_ | with_reducible refine W.skip ?_ | with_reducible refine W.endb ?_ | with_reducible refine W.block ?_ | refine W.exit rfl ?_ | refine Ops.len rfl rfl rfl rfl rfl ?_ | refine Ops.flp rfl rfl rfl rfl rfl ?_ | refine Ops.max rfl rfl rfl rfl rfl ?_ | refine Ops.min rfl rfl rfl rfl rfl ?_ | refine Ops.eqB rfl rfl rfl rfl rfl rfl ?_ | refine Ops.neB rfl rfl rfl rfl rfl rfl ?_ | (apply Ops.ldB rfl rfl rfl rfl rfl; assumption; rfl) | refine Ops.noB rfl rfl rfl rfl (by first | (simp; done) | (simp; omega)) ?_ | refine Ops.yesB rfl rfl rfl rfl (by first | (simp; done) | (simp; omega)) ?_))
        refine Ops.call rfl rfl rfl rfl rfl (awake_c _) (fun r w12 hR => ?_)
        obtain ⟨rfl, hb12⟩ := hR
        (repeat (first | with_reducible refine W.seq ?_ | with_reducible refine Ops.nil ?_ | with_reducible refine W.region ?_ | refine Ops.pu rfl rfl rfl ?_ | refine Ops.ar rfl rfl rfl (by omega) ?_ | refine Ops.yes rfl rfl rfl ?_ | refine Ops.no rfl rfl rfl rfl rfl ?_ | refine Ops.nu rfl rfl rfl rfl ?_ | with_reducible refine W.skip ?_ | with_reducible refine W.endb ?_ | with_reducible refine W.block ?_ | refine W.exit rfl ?_ | refine Ops.len rfl rfl rfl rfl rfl ?_ | refine Ops.flp rfl rfl rfl rfl rfl ?_ | refine Ops.max rfl rfl rfl rfl rfl ?_ | refine Ops.min rfl rfl rfl rfl rfl ?_ | refine Ops.eqB rfl rfl rfl rfl rfl rfl ?_ | refine Ops.neB rfl rfl rfl rfl rfl rfl ?_ | (apply Ops.ldB rfl rfl rfl rfl rfl; assumption; rfl) | refine Ops.noB rfl rfl rfl rfl (by first | (simp; done) | (simp; omega)) ?_ | refine Ops.yesB rfl rfl rfl rfl (by first | (simp; done) | (simp; omega)) ?_))
        exact W.fret rfl ⟨rfl, hb011.trans (hb12.mono hb011.size)⟩
      · have e2 := hC1.1.1 h
        have e3 := hC2 h
        have e4 := hB2.1.1 e3
        subst h e2 e3 e4
        (repeat (first | with_reducible refine W.seq ?_ | with_reducible refine Ops.nil ?_ | with_reducible refine W.region ?_ | refine Ops.pu rfl rfl rfl ?_ | refine Ops.ar rfl rfl rfl (by omega) ?_ | refine Ops.yes rfl rfl rfl ?_ | refine Ops.no rfl rfl rfl rfl rfl ?_ | refine Ops.nu rfl rfl rfl rfl ?_ | with_reducible refine W.skip ?_ | with_reducible refine W.endb ?_ | with_reducible refine W.block ?_ | refine W.exit rfl ?_ | refine Ops.len rfl rfl rfl rfl rfl ?_ | refine Ops.flp rfl rfl rfl rfl rfl ?_ | refine Ops.max rfl rfl rfl rfl rfl ?_ | refine Ops.min rfl rfl rfl rfl rfl ?_ | refine Ops.eqB rfl rfl rfl rfl rfl rfl ?_ | refine Ops.neB rfl rfl rfl rfl rfl rfl ?_ | (apply Ops.ldB rfl rfl rfl rfl rfl; assumption; rfl) | refine Ops.noB rfl rfl rfl rfl (by first | (simp; done) | (simp; omega)) ?_ | refine Ops.yesB rfl rfl rfl rfl (by first | (simp; done) | (simp; omega)) ?_))
        refine Ops.call rfl rfl rfl rfl rfl (awake_c _) (fun r w12 hR => ?_)
        obtain ⟨rfl, hb12⟩ := hR
        (repeat (first | with_reducible refine W.seq ?_ | with_reducible refine Ops.nil ?_ | with_reducible refine W.region ?_ | refine Ops.pu rfl rfl rfl ?_ | refine Ops.ar rfl rfl rfl (by omega) ?_ | refine Ops.yes rfl rfl rfl ?_ | refine Ops.no rfl rfl rfl rfl rfl ?_ | refine Ops.nu rfl rfl rfl rfl ?_ | with_reducible refine W.skip ?_ | with_reducible refine W.endb ?_ | with_reducible refine W.block ?_ | refine W.exit rfl ?_ | refine Ops.len rfl rfl rfl rfl rfl ?_ | refine Ops.flp rfl rfl rfl rfl rfl ?_ | refine Ops.max rfl rfl rfl rfl rfl ?_ | refine Ops.min rfl rfl rfl rfl rfl ?_ | refine Ops.eqB rfl rfl rfl rfl rfl rfl ?_ | refine Ops.neB rfl rfl rfl rfl rfl rfl ?_ | (apply Ops.ldB rfl rfl rfl rfl rfl; assumption; rfl) | refine Ops.noB rfl rfl rfl rfl (by first | (simp; done) | (simp; omega)) ?_ | refine Ops.yesB rfl rfl rfl rfl (by first | (simp; done) | (simp; omega)) ?_))
        exact W.fret rfl ⟨rfl, hb011.trans (hb12.mono hb011.size)⟩
      · have e2 : 0 ≤ z := by omega
        (repeat (first | with_reducible refine W.seq ?_ | with_reducible refine Ops.nil ?_ | with_reducible refine W.region ?_ | refine Ops.pu rfl rfl rfl ?_ | refine Ops.ar rfl rfl rfl (by omega) ?_ | refine Ops.yes rfl rfl rfl ?_ | refine Ops.no rfl rfl rfl rfl rfl ?_ | refine Ops.nu rfl rfl rfl rfl ?_ | with_reducible refine W.skip ?_ | with_reducible refine W.endb ?_ | with_reducible refine W.block ?_ | refine W.exit rfl ?_ | refine Ops.len rfl rfl rfl rfl rfl ?_ | refine Ops.flp rfl rfl rfl rfl rfl ?_ | refine Ops.max rfl rfl rfl rfl rfl ?_ | refine Ops.min rfl rfl rfl rfl rfl ?_ | refine Ops.eqB rfl rfl rfl rfl rfl rfl ?_ | refine Ops.neB rfl rfl rfl rfl rfl rfl ?_ | (apply Ops.ldB rfl rfl rfl rfl rfl; assumption; rfl) | refine Ops.noB rfl rfl rfl rfl (by first | (simp; done) | (simp; omega)) ?_ | refine Ops.yesB rfl rfl rfl rfl (by first | (simp; done) | (simp; omega)) ?_))
        exact W.fret rfl ⟨rfl, hb011⟩
end Go.Proofs.Ytdiljpnfochndaa
/- Drawn regions with guards. -/
namespace Go.Proofs.Ytdiljpnfochndaa.VW
open Go Go.RowKit
section
variable {P : Program} [hT : Tab P] {n : Nat} {ds : List Deferred} {Φ : Post} {k : List It} {ρ : E} {w : World} {all : Array Oper} {l : List Oper} {md : Option (List Oper)} {s : Nat} {F : World → Prop} {π : List (Nat × Nat)} {L : List Bool}
omit hT in
theorem Ord.takeY {i d : Nat} {o : Oper} {v : Value} (ho : all[i]? = some o) (hd : o.dst = some d) (hΦ : ∀ c ρ w, ¬ Φ (.panic c) ρ w) (hy : ∀ a, Rep n a ρ → YieldsIf P all (fun _ => True) o v a)
    (h : Ord P n ds all k Φ s F π (L.set i true) ((d, v) :: ρ) w) : Ord P n ds all k Φ s F ((i, 1) :: π) L ρ w := by
  intro hc hs hdo hcl hS a hr hds
  simp only [chk, Bool.and_eq_true, bne_iff_ne] at hc
  have hdn : dOk n o.dst = true := by
    rw [List.all_eq_true] at hdo
    exact hdo o (by rw [← Array.getElem?_toList] at ho; exact List.mem_of_getElem? ho)
  have hpan : ∀ (k : List It) c ρ w, ¬ Qof P n ds Φ k (.panic c) ρ w := by
    intro k
    induction k with
    | nil => exact hΦ
    | cons x r ih => cases x <;> exact ih
  refine wpAnyI_take ho hs hc.1.1.1 hc.1.1.2 (fun c a w hq => by obtain ⟨ρ', _, _, hq⟩ := hq; exact absurd hq (hpan k c ρ' w)) (SF.inv hc.1.2) (fun _ _ _ _ _ => trivial) hcl (hy a hr) hS ?_
  have := h hc.2 hs hdo (by rw [← List.setIfInBounds_toArray]; exact hcl.set (by simpa using hc.1.1.2)) (by rw [← List.setIfInBounds_toArray]; exact (SF.inv hc.1.2 _ _).2 hS) (a.put o.dst v) (by have := hr.put hdn v; rw [hd] at this ⊢; exact this) (by rw [hd]; exact hds)
  rw [List.setIfInBounds_toArray]
  exact this
omit hT in
/-- A guarded operation that does not run. -/
theorem Ord.takeNo {i d j g : Nat} {want b : Bool} {o : Oper} (ho : all[i]? = some o) (hd : o.dst = some d) (hg : o.guard = some (j, want)) (hj : (all[j]?).bind (·.dst) = some g) (hv : VW.look ρ g = some (.bool b)) (hb : b = !want) (hΦ : ∀ c ρ w, ¬ Φ (.panic c) ρ w)
    (h : Ord P n ds all k Φ s F π (L.set i true) ((d, undef) :: ρ) w) : Ord P n ds all k Φ s F ((i, 1) :: π) L ρ w :=
  Ord.takeY ho hd hΦ (fun a hr => .inr ⟨by simp [Region.wanted, hg, yielded_of hr hj hv, hb], rfl⟩) h
omit hT in
/-- A guarded operation that runs. -/
theorem Ord.takeYes {i d j g : Nat} {want b : Bool} {o : Oper} {v : Value} (ho : all[i]? = some o) (hd : o.dst = some d) (hg : o.guard = some (j, want)) (hj : (all[j]?).bind (·.dst) = some g) (hv : VW.look ρ g = some (.bool b)) (hb : b = want) (hΦ : ∀ c ρ w, ¬ Φ (.panic c) ρ w) (hev : ∀ w', EV P n ρ w' o v)
    (h : Ord P n ds all k Φ s F π (L.set i true) ((d, v) :: ρ) w) : Ord P n ds all k Φ s F ((i, 1) :: π) L ρ w :=
  Ord.takeY ho hd hΦ (fun a hr => .inl ⟨by simp [Region.wanted, hg, yielded_of hr hj hv, hb], fun w' _ => hev w' a hr⟩) h
omit hT in
theorem Ord.readY {i d : Nat} {o : Oper} {v : Value} (ho : all[i]? = some o) (hd : o.dst = some d) (hΦ : ∀ c ρ w, ¬ Φ (.panic c) ρ w) (hy : ∀ a, Rep n a ρ → YieldsIf P all F o v a)
    (h : Ord P n ds all k Φ s F π (L.set i true) ((d, v) :: ρ) w) : Ord P n ds all k Φ s F ((i, 2) :: π) L ρ w := by
  intro hc hs hdo hcl hS a hr hds
  simp only [chk, Bool.and_eq_true, bne_iff_ne] at hc
  have hdn : dOk n o.dst = true := by
    rw [List.all_eq_true] at hdo
    exact hdo o (by rw [← Array.getElem?_toList] at ho; exact List.mem_of_getElem? ho)
  have hpan : ∀ (k : List It) c ρ w, ¬ Qof P n ds Φ k (.panic c) ρ w := by
    intro k
    induction k with
    | nil => exact hΦ
    | cons x r ih => cases x <;> exact ih
  have hG : ∀ (L : Array Bool) w, Cl .any all L → L.getD i true = false → SF all s F L w → F w := fun L w hcl hLi hSF => hSF (by
    cases hos : all[s]? with
    | none => rfl
    | some os =>
      cases hb : L.getD s false with
      | false => rfl
      | true =>
        have hw := hc.1.2
        unfold waitsB at hw
        rw [hos] at hw
        simp only [Array.any_eq_true', Bool.and_eq_true, beq_iff_eq] at hw
        obtain ⟨e, he, hb1, hb2⟩ := hw
        have := hcl s os hos hb e he hb1
        rw [hb2] at this
        rw [Array.getD_eq_getD_getElem?] at this hLi
        cases hx : L[i]? with
        | none => rw [hx] at this; simp at this
        | some b => rw [hx] at this hLi; simp at this hLi; rw [this] at hLi; cases hLi)
  refine wpAnyI_take ho hs hc.1.1.1.1 hc.1.1.1.2 (fun c a w hq => by obtain ⟨ρ', _, _, hq⟩ := hq; exact absurd hq (hpan k c ρ' w)) (SF.inv hc.1.1.2) hG hcl (hy a hr) hS ?_
  have := h hc.2 hs hdo (by rw [← List.setIfInBounds_toArray]; exact hcl.set (by simpa using hc.1.1.1.2)) (by rw [← List.setIfInBounds_toArray]; exact (SF.inv hc.1.1.2 _ _).2 hS) (a.put o.dst v) (by have := hr.put hdn v; rw [hd] at this ⊢; exact this) (by rw [hd]; exact hds)
  rw [List.setIfInBounds_toArray]
  exact this
omit hT in
/-- A guarded read that runs. -/
theorem Ord.readYes {i d j g : Nat} {want b : Bool} {o : Oper} {v : Value} (ho : all[i]? = some o) (hd : o.dst = some d) (hg : o.guard = some (j, want)) (hj : (all[j]?).bind (·.dst) = some g) (hv : VW.look ρ g = some (.bool b)) (hb : b = want) (hΦ : ∀ c ρ w, ¬ Φ (.panic c) ρ w) (hev : ∀ w', F w' → EV P n ρ w' o v)
    (h : Ord P n ds all k Φ s F π (L.set i true) ((d, v) :: ρ) w) : Ord P n ds all k Φ s F ((i, 2) :: π) L ρ w :=
  Ord.readY ho hd hΦ (fun a hr => .inl ⟨by simp [Region.wanted, hg, yielded_of hr hj hv, hb], fun w' hF => hev w' hF a hr⟩) h
omit hT in
theorem yielded_un {a : Act} (hr : Rep n a ρ) {j d : Nat} (hj : (all[j]?).bind (·.dst) = some d) (hv : VW.look ρ d = some undef) : yielded all a.tmps j = none := by
  have h := hr.slot d _ hv
  rw [Array.getD_eq_getD_getElem?] at h
  simp only [yielded, hj, Option.bind_some]
  cases hx : a.tmps[d]? with
  | none => rfl
  | some v => rw [hx] at h; simp at h; rw [h]; rfl
omit hT in
/-- A guard that did not run itself. -/
theorem Ord.takeNu {i d j g : Nat} {want : Bool} {o : Oper} (ho : all[i]? = some o) (hd : o.dst = some d) (hg : o.guard = some (j, want)) (hj : (all[j]?).bind (·.dst) = some g) (hv : VW.look ρ g = some undef) (hΦ : ∀ c ρ w, ¬ Φ (.panic c) ρ w)
    (h : Ord P n ds all k Φ s F π (L.set i true) ((d, undef) :: ρ) w) : Ord P n ds all k Φ s F ((i, 1) :: π) L ρ w :=
  Ord.takeY ho hd hΦ (fun a hr => .inr ⟨by simp [Region.wanted, hg, yielded_un hr hj hv], rfl⟩) h
omit hT in
theorem Ord.readNo {i d j g : Nat} {want b : Bool} {o : Oper} (ho : all[i]? = some o) (hd : o.dst = some d) (hg : o.guard = some (j, want)) (hj : (all[j]?).bind (·.dst) = some g) (hv : VW.look ρ g = some (.bool b)) (hb : b = !want) (hΦ : ∀ c ρ w, ¬ Φ (.panic c) ρ w)
    (h : Ord P n ds all k Φ s F π (L.set i true) ((d, undef) :: ρ) w) : Ord P n ds all k Φ s F ((i, 2) :: π) L ρ w :=
  Ord.readY ho hd hΦ (fun a hr => .inr ⟨by simp [Region.wanted, hg, yielded_of hr hj hv, hb], rfl⟩) h
omit hT in
theorem Ord.readNu {i d j g : Nat} {want : Bool} {o : Oper} (ho : all[i]? = some o) (hd : o.dst = some d) (hg : o.guard = some (j, want)) (hj : (all[j]?).bind (·.dst) = some g) (hv : VW.look ρ g = some undef) (hΦ : ∀ c ρ w, ¬ Φ (.panic c) ρ w)
    (h : Ord P n ds all k Φ s F π (L.set i true) ((d, undef) :: ρ) w) : Ord P n ds all k Φ s F ((i, 2) :: π) L ρ w :=
  Ord.readY ho hd hΦ (fun a hr => .inr ⟨by simp [Region.wanted, hg, yielded_un hr hj hv], rfl⟩) h
end
end Go.Proofs.Ytdiljpnfochndaa.VW
/- Drawn regions with calls that only make memory: worlds known by what stands in them. -/
namespace Go.Proofs.Ytdiljpnfochndaa.VW
open Go Go.RowKit
/-- At whatever world that F tells of: value v, and F again. -/
def YA (P : Program) (ops : Array Oper) (F : World → Prop) (o : Oper) (v : Value) (a : Act) : Prop :=
  (Region.wanted o (yielded ops a.tmps) = true ∧ ∀ w, F w → (execOp a.eval o).run P w = .ok (.value v) w ∨ ∃ f args, (execOp a.eval o).run P w = .ok (.enter f args) w ∧ Calls P f args w (fun e w' => e = .returned v ∧ F w')) ∨
  (Region.wanted o (yielded ops a.tmps) = false ∧ v = undef)
def wpA (P : Program) (ops : Array Oper) (Q : Exit → Act → World → Prop) (F : World → Prop) (s : Nat) : Nat → Array Bool → Act → Prop
  | 0, L, a => Region.ready .any ops L = [] ∧ ∀ w, F w → Q .normal a w
  | fuel + 1, L, a => (Region.ready .any ops L = [] → ∀ w, F w → Q .normal a w) ∧ ∀ i ∈ Region.ready .any ops L,
    (i ≠ s ∧ ∀ o, ops[i]? = some o → ∃ v, YA P ops F o v a ∧ wpA P ops Q F s fuel (L.setIfInBounds i true) (a.put o.dst v)) ∨
    (i = s ∧ ∀ w, F w → wpOp P ops Q i (wpAny P .any ops Q fuel (L.setIfInBounds i true)) a w)
section
variable {P : Program} {ops : Array Oper} {Q : Exit → Act → World → Prop} {F : World → Prop} {s : Nat}
theorem YA.wpOp {i : Nat} {o : Oper} {v : Value} {a : Act} (hi : ops[i]? = some o) (hy : YA P ops F o v a) {K : Act → World → Prop} {w : World} (hF : F w) (h : ∀ w', F w' → K (a.put o.dst v) w') : wpOp P ops Q i K a w := by
  unfold Go.wpOp
  simp only [hi]
  rcases hy with ⟨hw, hv⟩ | ⟨hw, rfl⟩
  · simp only [hw, if_true]
    refine .inl ?_
    unfold Oper.wp
    rcases hv w hF with hv | ⟨f, args, hv, hc⟩
    · rw [hv]; exact h w hF
    · rw [hv]
      refine hc.mono fun e w' ⟨he, hF'⟩ => ?_
      subst he
      exact h w' hF'
  · simp only [hw, Bool.false_eq_true, if_false]; exact h w hF
theorem YA.of_same {o : Oper} {v : Value} {a a' : Act} (hy : YA P ops F o v a) (he : execOp a'.eval o = execOp a.eval o) (hw : Region.wanted o (yielded ops a'.tmps) = Region.wanted o (yielded ops a.tmps)) : YA P ops F o v a' := by
  unfold YA at *
  rw [he, hw]
  exact hy
theorem wpAny_of_A : ∀ (fuel : Nat) (L : Array Bool) (a : Act), wpA P ops Q F s fuel L a → ∀ w, F w → wpAny P .any ops Q fuel L a w
  | 0, _, _, h, w, hF => ⟨h.1, h.2 w hF⟩
  | fuel + 1, L, a, h, w, hF => ⟨fun hr => h.1 hr w hF, fun i hi => by
      rcases h.2 i hi with ⟨_, h2⟩ | ⟨_, h2⟩
      · obtain ⟨_, o, ho, _⟩ := mem_ready.1 hi
        obtain ⟨v, hy, hA⟩ := h2 o ho
        exact hy.wpOp ho hF fun w' hF' => wpAny_of_A fuel _ _ hA w' hF'
      · exact h2 w hF⟩
theorem wpA_first {i : Nat} {oi : Oper} {v : Value} (hi : ops[i]? = some oi) (his : i ≠ s) (hsel : ∀ (j : Nat) (o : Oper) cs b, ops[j]? = some o → o.op ≠ .select cs b)
    (hQ : ∀ c a w, Q (.panic c) (a.put oi.dst v) w → Q (.panic c) a w)
    (Y : Act → Prop) (hYA : ∀ a, Y a → YA P ops F oi v a) (hYs : ∀ a a', Y a → execOp a'.eval oi = execOp a.eval oi → Region.wanted oi (yielded ops a'.tmps) = Region.wanted oi (yielded ops a.tmps) → Y a')
    (hT : (∀ L, Cl .any ops L → L.getD i true = false → s ∉ Region.ready .any ops L) ∨ (∀ a, Y a → Yields P ops oi v a)) :
    ∀ (fuel : Nat) (L : Array Bool) (a : Act),
      (∀ j oj, ops[j]? = some oj → j ≠ i → L.getD j true = false → (∀ e ∈ oj.after, Region.binds .any e = true → e.on ≠ i) → oi.apart ops oj = true) →
      i ∈ Region.ready .any ops L → Cl .any ops L → Y a → wpA P ops Q F s fuel (L.setIfInBounds i true) (a.put oi.dst v) → wpA P ops Q F s (fuel + 1) L a := by
  intro fuel
  induction fuel with
  | zero =>
    intro L a _ hr hcl hy H
    refine ⟨fun h => (by rw [h] at hr; cases hr), fun j hj => ?_⟩
    by_cases hji : j = i
    · subst hji
      exact .inl ⟨his, fun o ho => ⟨v, by rw [hi] at ho; cases ho; exact ⟨hYA a hy, H⟩⟩⟩
    · have := ready_mono hj hji
      rw [H.1] at this
      cases this
  | succ fuel ih =>
    intro L a hfree hr hcl hy H
    refine ⟨fun h => (by rw [h] at hr; cases hr), fun j hj => ?_⟩
    by_cases hji : j = i
    · subst hji
      exact .inl ⟨his, fun o ho => ⟨v, by rw [hi] at ho; cases ho; exact ⟨hYA a hy, H⟩⟩⟩
    · have h1 := H.2 j (ready_mono hj hji)
      obtain ⟨hjun, oj, hoj, hall⟩ := mem_ready.1 hj
      have hnot : ∀ e ∈ oj.after, Region.binds .any e = true → e.on ≠ i := fun e he hb heq => by
        have h1 := hall e he hb
        have h0 := (mem_ready.1 hr).1
        rw [heq] at h1
        rcases Nat.lt_or_ge i L.size with h' | h'
        · simp [h'] at h0 h1; rw [h0] at h1; cases h1
        · simp [Array.getElem?_eq_none h'] at h1
      have hap := hfree j oj hoj hji hjun hnot
      obtain ⟨p1, p2, p3⟩ := Oper.apart_spec hap
      have hfree' : ∀ k ok, ops[k]? = some ok → k ≠ i → (L.setIfInBounds j true).getD k true = false →
          (∀ e ∈ ok.after, Region.binds .any e = true → e.on ≠ i) → oi.apart ops ok = true := fun k ok hk hki hun hno => by
        refine hfree k ok hk hki ?_ hno
        by_cases hjk : j = k
        · subst hjk; exact hjun
        · rw [getD_set_ne true hjk] at hun; exact hun
      rcases h1 with ⟨hjs, h1⟩ | ⟨hjs, h1⟩
      · refine .inl ⟨hjs, fun o ho => ?_⟩
        rw [hoj] at ho
        cases ho
        obtain ⟨u, hyj, hA⟩ := h1 oj hoj
        refine ⟨u, hyj.of_same (execOp_put oj (fun cs b => hsel j oj cs b hoj) a oi.dst v p1).symm (wanted_put oj a oi.dst v p1).symm, ?_⟩
        refine ih (L.setIfInBounds j true) _ hfree' (ready_mono hr (Ne.symm hji)) (hcl.set hj) (hYs a _ hy (execOp_put oi (fun cs b => hsel i oi cs b hi) a oj.dst u p3) (wanted_put oi a oj.dst u p3)) ?_
        rw [Array.setIfInBounds_comm _ _ hji, ← Act.put_comm a v u p2]
        exact hA
      · refine .inr ⟨hjs, fun w hF => ?_⟩
        rcases hT with hT | hT
        · exact absurd (hjs ▸ hj) (hT L hcl (mem_ready.1 hr).1)
        · have h2 := wpOp_put hoj hap (fun cs b => hsel i oi cs b hi) (fun cs b => hsel j oj cs b hoj) hQ (hT a hy) (h1 w hF)
          refine wpOp_mono (fun a' w' h3 => ?_) h2
          refine wpAny_first hi hsel hQ fuel (L.setIfInBounds j true) a' w' hfree' (ready_mono hr (Ne.symm hji)) h3.1 ?_
          rw [Array.setIfInBounds_comm _ _ hji]
          exact h3.2
end
def markL : List Edge → List Bool → List Bool
  | [], M => M
  | e :: r, M => markL r (if Region.binds .any e then M.set e.on true else M)
def upSet (ops : Array Oper) : Nat → List Bool → List Bool
  | 0, M => M
  | i + 1, M => match M.getD i false, ops[i]? with
    | true, some o => upSet ops i (markL o.after.toList M)
    | _, _ => upSet ops i M
def waitsC (ops : Array Oper) (s i : Nat) : Bool := match ops[s]? with
  | some _ => (upSet ops (s + 1) ((List.replicate ops.size false).set s true)).getD i false
  | none => true
theorem getD_lset {M : List Bool} {j q : Nat} (h : (M.set j true).getD q false = true) : q = j ∨ M.getD q false = true := by
  by_cases e : j = q
  · exact .inl e.symm
  · rw [List.getD_eq_getElem?_getD, List.getElem?_set_ne e, ← List.getD_eq_getElem?_getD] at h
    exact .inr h
theorem markL_inv {s : Nat} {L : Array Bool} : ∀ (es : List Edge) (M : List Bool), (∀ q, M.getD q false = true → q = s ∨ L.getD q false = true) → (∀ e ∈ es, Region.binds .any e = true → L.getD e.on false = true) → ∀ q, (markL es M).getD q false = true → q = s ∨ L.getD q false = true
  | [], _, h, _ => h
  | e :: r, M, h, he => by
    refine markL_inv r _ (fun q hq => ?_) fun x hx => he x (by simp [hx])
    split at hq
    · rename_i hb
      rcases getD_lset hq with rfl | hq
      · exact .inr (he e (by simp) hb)
      · exact h q hq
    · exact h q hq
theorem upSet_inv {ops : Array Oper} {s : Nat} {L : Array Bool} (hcl : Cl .any ops L) (hs : ∀ o, ops[s]? = some o → ∀ e ∈ o.after, Region.binds .any e = true → L.getD e.on false = true) : ∀ (i : Nat) (M : List Bool), (∀ q, M.getD q false = true → q = s ∨ L.getD q false = true) → ∀ q, (upSet ops i M).getD q false = true → q = s ∨ L.getD q false = true
  | 0, _, h => h
  | i + 1, M, h => by
    unfold upSet
    split
    · rename_i o hM ho
      refine upSet_inv hcl hs i _ (markL_inv _ _ h fun e he hb => ?_)
      rw [Array.mem_toList_iff] at he
      rcases h i hM with rfl | hL
      · exact hs o ho e he hb
      · exact hcl i o ho hL e he hb
    · exact upSet_inv hcl hs i M h
theorem waitsC_spec {ops : Array Oper} {s i : Nat} (h : waitsC ops s i = true) (his : i ≠ s) {L : Array Bool} (hcl : Cl .any ops L) (hL : L.getD i true = false) : s ∉ Region.ready .any ops L := by
  intro hr
  obtain ⟨_, o, ho, hall⟩ := mem_ready.1 hr
  unfold waitsC at h
  rw [ho] at h
  rcases upSet_inv hcl (fun o' ho' => by rw [ho] at ho'; cases ho'; exact hall) (s + 1) _ (fun q hq => by
    rcases getD_lset hq with rfl | hq
    · exact .inl rfl
    · rw [List.getD_eq_getElem?_getD, List.getElem?_replicate] at hq
      split at hq <;> simp at hq) i h with rfl | h2
  · exact his rfl
  · rw [Array.getD_eq_getD_getElem?] at hL h2
    cases hx : L[i]? with
    | none => rw [hx] at h2; simp at h2
    | some b => rw [hx] at h2 hL; simp at h2 hL; rw [h2] at hL; cases hL
/-- An order: 1: pure, at any time; 2: reads, or calls what only makes memory, before s; 0: s itself, behind all else that is ready. -/
def chkA (ops : Array Oper) (s : Nat) : List (Nat × Nat) → List Bool → Bool
  | [], L => (Region.ready .any ops L.toArray).isEmpty
  | (i, 0) :: r, L => i == s && (Region.ready .any ops L.toArray).contains i && chk ops 9999 ((i, 0) :: r) L
  | (i, 1) :: r, L => Region.free .any ops L.toArray i && (Region.ready .any ops L.toArray).contains i && (i != s) && chkA ops s r (L.set i true)
  | (i, _ + 2) :: r, L => Region.free .any ops L.toArray i && (Region.ready .any ops L.toArray).contains i && (i != s) && waitsC ops s i && chkA ops s r (L.set i true)
def gdB (all : Array Oper) (ρ : E) : Option (Nat × Bool) → Option Bool
  | none => some true
  | some (j, want) => match (all[j]?).bind (·.dst) with
    | some g => match VW.look ρ g with
      | some (.bool b) => some (b == want)
      | some (.tuple ⟨[]⟩) => some false
      | _ => none
    | none => none
section
variable {P : Program} [hT : Tab P] {n : Nat} {ds : List Deferred} {Φ : Post} {k : List It} {ρ : E} {w : World} {all : Array Oper} {l : List Oper} {s : Nat} {F : World → Prop} {π : List (Nat × Nat)} {L : List Bool}
def OrdA (P : Program) (n : Nat) (ds : List Deferred) (all : Array Oper) (k : List It) (Φ : Post) (s : Nat) (F : World → Prop) (π : List (Nat × Nat)) (L : List Bool) (ρ : E) : Prop :=
  chkA all s π L = true → Region.noSelect all = true → (all.toList.all fun o => dOk n o.dst) = true → Cl .any all L.toArray → (∀ c ρ w, ¬ Φ (.panic c) ρ w) → ∀ a, Rep n a ρ → a.defers = ds → wpA P all (lift n ds (Qof P n ds Φ k)) F s π.length L.toArray a
omit hT in
theorem OrdA.nil (h : ∀ w, F w → W P n ds k Φ ρ w) : OrdA P n ds all k Φ s F [] L ρ := fun hc _ _ _ _ a hr hd => ⟨by simpa [chkA] using hc, fun w hF => ⟨ρ, hr, hd, h w hF⟩⟩
omit hT in
theorem gdB_wanted {o : Oper} {c : Bool} (hg : gdB all ρ o.guard = some c) {a : Act} (hr : Rep n a ρ) : Region.wanted o (yielded all a.tmps) = c := by
  unfold Region.wanted
  cases hgd : o.guard with
  | none => rw [hgd] at hg; simp [gdB] at hg; simp [hg]
  | some p =>
    obtain ⟨j, want⟩ := p
    rw [hgd] at hg
    simp only [gdB] at hg
    split at hg
    · rename_i g hj
      split at hg
      · rename_i b hv
        simp only [Option.some.injEq] at hg
        simp only [yielded_of hr hj hv]
        rw [← hg]
        cases b <;> cases want <;> rfl
      · rename_i hv
        simp only [Option.some.injEq] at hg
        simp only [yielded_un hr hj hv, ← hg]
        cases want <;> rfl
      · simp at hg
    · simp at hg
omit hT in
theorem pan_no (hΦ : ∀ c ρ w, ¬ Φ (.panic c) ρ w) : ∀ (k : List It) c ρ w, ¬ Qof P n ds Φ k (.panic c) ρ w := by
  intro k
  induction k with
  | nil => exact hΦ
  | cons x r ih => cases x <;> exact ih
omit hT in
theorem OrdA.go {i d m : Nat} {o : Oper} {v : Value} (ho : all[i]? = some o) (hd : o.dst = some d)
    (Y : Act → Prop) (hYA : ∀ a, Y a → YA P all F o v a) (hYs : ∀ a a', Y a → execOp a'.eval o = execOp a.eval o → Region.wanted o (yielded all a'.tmps) = Region.wanted o (yielded all a.tmps) → Y a')
    (hTT : (m = 0 ∧ ∀ a, Y a → Yields P all o v a) ∨ m = 1) (hy : ∀ a, Rep n a ρ → Y a)
    (h : OrdA P n ds all k Φ s F π (L.set i true) ((d, v) :: ρ)) : OrdA P n ds all k Φ s F ((i, m + 1) :: π) L ρ := by
  intro hc hs hdo hcl hΦ a hr hds
  have hdn : dOk n o.dst = true := by
    rw [List.all_eq_true] at hdo
    exact hdo o (by rw [← Array.getElem?_toList] at ho; exact List.mem_of_getElem? ho)
  have hcc : Region.free .any all L.toArray i = true ∧ (Region.ready .any all L.toArray).contains i = true ∧ i ≠ s ∧ chkA all s π (L.set i true) = true ∧ ((∀ L, Cl .any all L → L.getD i true = false → s ∉ Region.ready .any all L) ∨ (∀ a, Y a → Yields P all o v a)) := by
    rcases hTT with ⟨rfl, hT1⟩ | rfl
    · simp only [chkA, Bool.and_eq_true, bne_iff_ne] at hc
      exact ⟨hc.1.1.1, hc.1.1.2, hc.1.2, hc.2, .inr hT1⟩
    · simp only [chkA, Bool.and_eq_true, bne_iff_ne] at hc
      exact ⟨hc.1.1.1.1, hc.1.1.1.2, hc.1.1.2, hc.2, .inl fun L hcl hL => waitsC_spec hc.1.2 hc.1.1.2 hcl hL⟩
  obtain ⟨h1, h2, h3, h4, h5⟩ := hcc
  have hrd : i ∈ Region.ready .any all L.toArray := by simpa using h2
  refine wpA_first ho h3 (Region.noSelect_spec hs) (fun c a w hq => by obtain ⟨ρ', _, _, hq⟩ := hq; exact absurd hq (pan_no hΦ k c ρ' w)) Y hYA hYs h5 π.length L.toArray a (Region.free_spec ho h1) hrd hcl (hy a hr) ?_
  have := h h4 hs hdo (by rw [← List.setIfInBounds_toArray]; exact hcl.set hrd) hΦ (a.put o.dst v) (by have := hr.put hdn v; rw [hd] at this ⊢; exact this) (by rw [hd]; exact hds)
  rw [List.setIfInBounds_toArray]
  exact this
omit hT in
/-- A pure operation. -/
theorem OrdA.pure {i d : Nat} {o : Oper} {v : Value} {c : Bool} (ho : all[i]? = some o) (hd : o.dst = some d) (hg : gdB all ρ o.guard = some c) (hgc : c = true) (hev : ∀ w, EV P n ρ w o v)
    (h : OrdA P n ds all k Φ s F π (L.set i true) ((d, v) :: ρ)) : OrdA P n ds all k Φ s F ((i, 1) :: π) L ρ := by
  subst hgc
  refine OrdA.go ho hd (Y := fun a => Region.wanted o (yielded all a.tmps) = true ∧ ∀ w, (execOp a.eval o).run P w = .ok (.value v) w) (fun a hy => .inl ⟨hy.1, fun w _ => .inl (hy.2 w)⟩) (fun a a' hy he hw => by rw [he, hw]; exact hy)
    (.inl ⟨rfl, fun a hy => .inl hy⟩) (fun a hr => ⟨gdB_wanted hg hr, fun w => hev w a hr⟩) h
omit hT in
/-- An operation that is not wanted. -/
theorem OrdA.no {i d m : Nat} {o : Oper} {c : Bool} (ho : all[i]? = some o) (hd : o.dst = some d) (hg : gdB all ρ o.guard = some c) (hgc : c = false) (hm : m < 2)
    (h : OrdA P n ds all k Φ s F π (L.set i true) ((d, undef) :: ρ)) : OrdA P n ds all k Φ s F ((i, m + 1) :: π) L ρ := by
  subst hgc
  refine OrdA.go ho hd (Y := fun a => Region.wanted o (yielded all a.tmps) = false) (fun a hy => .inr ⟨hy, rfl⟩) (fun a a' hy he hw => by rw [hw]; exact hy) ?_ (fun a hr => gdB_wanted hg hr) h
  have : m = 0 ∨ m = 1 := by omega
  rcases this with rfl | rfl
  · exact .inl ⟨rfl, fun a hy => .inr ⟨hy, rfl⟩⟩
  · exact .inr rfl
omit hT in
/-- A read. -/
theorem OrdA.read {i d : Nat} {o : Oper} {v : Value} {c : Bool} (ho : all[i]? = some o) (hd : o.dst = some d) (hg : gdB all ρ o.guard = some c) (hgc : c = true) (hev : ∀ w, F w → EV P n ρ w o v)
    (h : OrdA P n ds all k Φ s F π (L.set i true) ((d, v) :: ρ)) : OrdA P n ds all k Φ s F ((i, 2) :: π) L ρ := by
  subst hgc
  exact OrdA.go ho hd (Y := fun a => Region.wanted o (yielded all a.tmps) = true ∧ ∀ w, F w → (execOp a.eval o).run P w = .ok (.value v) w) (fun a hy => .inl ⟨hy.1, fun w hF => .inl (hy.2 w hF)⟩) (fun a a' hy he hw => by rw [he, hw]; exact hy)
    (.inr rfl) (fun a hr => ⟨gdB_wanted hg hr, fun w hF => hev w hF a hr⟩) h
/-- A call whose value is known, and that leaves what F tells. -/
theorem OrdA.call [hF : Fns P] {i d : Nat} {o : Oper} {cl : Call} {f : Nat} {vs : List Value} {v : Value} {c : Bool} (ho : all[i]? = some o) (hop : o.op = .call cl) (hd : o.dst = some d) (hg : gdB all ρ o.guard = some c) (hgc : c = true)
    (hv : callV ρ cl = some (f, vs)) (hf : memB hF.L f = true) (hc : ∀ w, F w → Calls P f vs.toArray w (Ret fun r w' => r = v ∧ F w'))
    (h : OrdA P n ds all k Φ s F π (L.set i true) ((d, v) :: ρ)) : OrdA P n ds all k Φ s F ((i, 2) :: π) L ρ := by
  subst hgc
  refine OrdA.go ho hd (Y := fun a => Region.wanted o (yielded all a.tmps) = true ∧ ∀ w, F w → ∃ f args, (execOp a.eval o).run P w = .ok (.enter f args) w ∧ Calls P f args w (fun e w' => e = .returned v ∧ F w')) (fun a hy => .inl ⟨hy.1, fun w hF => .inr (hy.2 w hF)⟩) (fun a a' hy he hw => by rw [he, hw]; exact hy)
    (.inr rfl) (fun a hr => ⟨gdB_wanted hg hr, fun w hF => ⟨f, vs.toArray, run_callV hop hv (Fns.call hf) hr, (hc w hF).mono fun e w' ⟨r, he, hr', hF'⟩ => ⟨by rw [he, hr'], hF'⟩⟩⟩) h
omit hT in
/-- The end of a region: at a world that is known. -/
theorem OrdA.tail (h : ∀ w, F w → Ord P n ds all k Φ 9999 (fun _ => True) ((s, 0) :: π) L ρ w) : OrdA P n ds all k Φ s F ((s, 0) :: π) L ρ := by
  intro hc hs hdo hcl _ a hr hd
  simp only [chkA, Bool.and_eq_true] at hc
  have hrs : Region.ready .any all L.toArray = [s] := by
    have := hc.2
    simp only [chk, Bool.and_eq_true, beq_iff_eq] at this
    exact this.1
  refine ⟨fun h0 => (by rw [hrs] at h0; cases h0), fun i hi => ?_⟩
  rw [hrs] at hi
  simp only [List.mem_singleton] at hi
  refine .inr ⟨hi, fun w hF => ?_⟩
  have := h w hF hc.2 hs hdo hcl (fun _ => trivial) a hr hd
  exact wpOp_mono (fun a' w' h' => wpAny_of_I _ _ _ _ h'.2) (this.2 i (by rw [hrs, hi]; simp))
omit hT in
theorem W.ordA {id : Nat} {ops : Array Oper} (s : Nat) (π : List (Nat × Nat)) (hm : P.follows .mixedOrders = true) (hs : Region.noSelect ops = true) (hlen : π.length = ops.size) (hc : chkA ops s π (List.replicate π.length false) = true) (hΦ : ∀ c ρ w, ¬ Φ (.panic c) ρ w)
    (h : OrdA P n ds ops k Φ s (fun w' => Below w.heap.size w w') π (List.replicate π.length false) ρ) : W P n ds (.code (.region id ops true) :: k) Φ ρ w := by
  intro hi a hr hd
  refine wp_region_any hm ?_
  have := wpAny_of_A _ _ _ (h hc hs (by simpa [inB] using hi) (by rw [List.toArray_replicate]; exact Cl.start _) hΦ a hr hd) w.drew (Kp.below (kp_drew w) (Nat.le_refl _) (fun _ _ e => e))
  rw [← hlen]
  rw [List.toArray_replicate] at this
  exact this
/-- Reads of several cells at once. -/
theorem EV.ld2 {o : Oper} {t : Nat} {x : Operand} {p : Addr} {v u : Value} (ho : o.op = .load t x) (ht : tyAgg P t = some true) (hs : tyS P t = some 2) (hx : ev ρ x = some (.pointer (some p))) (hc : w.cell? p = some v) (hc2 : w.cell? (p.add 1) = some u) : EV P n ρ w o (.agg #[v, u]) := by
  intro a hr
  have e0 : p.add 0 = p := by simp [Addr.add]
  simp [execOp, ho, Instr.loadAt, Instr.sureAddr, hr.ev hx, loadVar, run_isAgg ht, run_sizeOf hs, loadCells, loadCellsFrom, load, Sem.run, hc, hc2, e0]
/-- An element of a slice that stands. -/
theorem OrdA.rdS {α : Type} {enc : α → Value} {z : α} {i1 i2 d1 d2 t t' e : Nat} {o1 o2 : Oper} {x y : Operand} {v : Value} {i : Int} {xs : List α} {w0 : World} {c1 c2 : Bool}
    (h1 : all[i1]? = some o1) (ho : o1.op = .indexAddr t x y) (hd1 : o1.dst = some d1) (hg1 : gdB all ρ o1.guard = some c1) (hc1 : c1 = true)
    (h2 : all[i2]? = some o2) (ho2 : o2.op = .load t' (.tmp d1)) (hd2 : o2.dst = some d2) (hg2 : ∀ p, gdB all ((d1, .pointer p) :: ρ) o2.guard = some c2) (hc2 : c2 = true)
    (ht : tyD P t = some (.slice e)) (hs : tyS P e = some 1) (ha : tyAgg P t' = some false) (hx : ev ρ x = some v) (hy : ev ρ y = some (.int .i64 i)) (hsl : Sl enc z w0 v xs) (hF : ∀ w, F w → Below w0.heap.size w0 w) (h0 : 0 ≤ i) (hi : i < xs.length)
    (hk : ∀ p, OrdA P n ds all k Φ s F π ((L.set i1 true).set i2 true) ((d2, enc (xs.getD i.toNat z)) :: (d1, p) :: ρ)) : OrdA P n ds all k Φ s F ((i1, 1) :: (i2, 2) :: π) L ρ := by
  obtain ⟨hm, A, c, rfl, h⟩ := hsl
  obtain ⟨a, rfl, hc⟩ := h (by omega)
  refine OrdA.pure h1 hd1 hg1 hc1 (fun w => EV.idx ho ht hs hx hy h0 hi) ?_
  rw [Nat.mul_one]
  exact OrdA.read h2 hd2 (hg2 _) hc2 (fun w hw => EV.ld ho2 ha (ev_top _ _ _) (cell_kp (Kp.of_below (S := fun _ => False) (hF w hw)) (hc i.toNat (by omega)) (fun e => e))) (hk _)
end
end Go.Proofs.Ytdiljpnfochndaa.VW
/- Rules for walks that go by themselves: facts are looked up among the hypotheses, by the world at which they were told. -/
namespace Go.Proofs.Ytdiljpnfochndaa.VW
open Go Go.RowKit
theorem Below.via {a b c : World} (h : Below a.heap.size a b) (k : Below b.heap.size b c) : Below a.heap.size a c := h.trans (k.mono h.size)
theorem Calls.via {P : Program} {f : FuncId} {args : Array Value} {v : Value} {a b : World} (hF : Below a.heap.size a b) (h : Calls P f args b (Ret fun r w' => r = v ∧ Below b.heap.size b w')) : Calls P f args b (Ret fun r w' => r = v ∧ Below a.heap.size a w') :=
  h.mono fun e w' ⟨r, he, hr, hb⟩ => ⟨r, he, hr, Below.via hF hb⟩
theorem Calls.same {P : Program} {f : FuncId} {args : Array Value} {v : Value} {a b : World} (hF : Below a.heap.size a b) (h : Calls P f args b (Ret fun r w' => r = v ∧ w' = b)) : Calls P f args b (Ret fun r w' => r = v ∧ Below a.heap.size a w') :=
  h.mono fun e w' ⟨r, he, hr, hb⟩ => ⟨r, he, hr, by rw [hb]; exact hF⟩
section
variable {P : Program} [hT : Tab P] {n : Nat} {ds : List Deferred} {Φ : Post} {k : List It} {ρ : E} {w : World} {all : Array Oper} {l : List Oper} {md : Option (List Oper)} {s : Nat} {F : World → Prop} {π : List (Nat × Nat)} {L : List Bool}
omit hT in
theorem EV.ng {o : Oper} {v : Value} (h : EV P n ρ w o v) : EV P n ρ w { o with guard := none } v := fun a hr => h a hr
omit hT in
/-- Any operation that gives a value, under its guard. -/
theorem Ops.evG {o : Oper} {d : Nat} {v : Value} {c : Bool} (hd : o.dst = some d) (hg : gdB all ρ o.guard = some c) (hc : c = true) (hev : EV P n ρ w o v) (hk : Ops md P n ds all k Φ l ((d, v) :: ρ) w) : Ops md P n ds all k Φ (o :: l) ρ w := by
  subst hc
  intro hi a ha hds
  simp only [List.all_cons, Bool.and_eq_true] at hi
  have hw := gdB_wanted hg ha
  have h' := hk hi.2 (a.put o.dst v) (by have := ha.put hi.1 v; rw [hd] at this ⊢; exact this) (by rw [hd]; exact hds)
  cases md with
  | none =>
    show wpList _ _ _ _ _ _
    unfold wpList
    rw [if_pos hw]
    refine .inl ?_
    unfold Oper.wp
    rw [hev a ha]
    exact h'
  | some tl =>
    show wpStill _ _ _ _ _ _
    unfold wpStill
    rw [if_pos hw]
    unfold Oper.still
    rw [hev a ha]
    exact ⟨rfl, h'⟩
omit hT in
theorem Ops.evN {o : Oper} {d : Nat} {c : Bool} (hd : o.dst = some d) (hg : gdB all ρ o.guard = some c) (hc : c = false) (hk : Ops md P n ds all k Φ l ((d, undef) :: ρ) w) : Ops md P n ds all k Φ (o :: l) ρ w := by
  subst hc
  intro hi a ha hds
  simp only [List.all_cons, Bool.and_eq_true] at hi
  have hw := gdB_wanted hg ha
  have h' := hk hi.2 (a.put o.dst undef) (by have := ha.put hi.1 undef; rw [hd] at this ⊢; exact this) (by rw [hd]; exact hds)
  cases md with
  | none =>
    show wpList _ _ _ _ _ _
    unfold wpList
    rw [if_neg (by rw [hw]; simp)]
    exact h'
  | some tl =>
    show wpStill _ _ _ _ _ _
    unfold wpStill
    rw [if_neg (by rw [hw]; simp)]
    exact h'
omit hT in
theorem EV.pickT {o : Oper} {c x y : Operand} {b : Bool} {v : Value} (ho : o.op = .pick c x y) (hc : ev ρ c = some (.bool b)) (hb : b = true) (hx : ev ρ x = some v) : EV P n ρ w o v := by
  intro a hr
  simp [execOp, ho, hr.ev hc, hr.ev hx, asBool, hb]
omit hT in
theorem EV.pickF {o : Oper} {c x y : Operand} {b : Bool} {v : Value} (ho : o.op = .pick c x y) (hc : ev ρ c = some (.bool b)) (hb : b = false) (hx : ev ρ y = some v) : EV P n ρ w o v := by
  intro a hr
  simp [execOp, ho, hr.ev hc, hr.ev hx, asBool, hb]
omit hT in
theorem EV.max {o : Oper} {x y : Operand} {ts : Array TypeId} {a b : Int} (ho : o.op = .call { callee := .builtin .max, args := #[x, y], argTypes := ts }) (hx : ev ρ x = some (.int .i64 a)) (hy : ev ρ y = some (.int .i64 b)) : EV P n ρ w o (.int .i64 (Max.max a b)) := by
  intro c hr
  have e : (if b > a then b else a) = Max.max a b := by simp only [Int.max_def]; split <;> split <;> omega
  simp [execOp, ho, resolve, hr.ev hx, hr.ev hy, invoke, builtin, Builtin.max_, Builtin.max2, ← e]
omit hT in
theorem EV.min {o : Oper} {x y : Operand} {ts : Array TypeId} {a b : Int} (ho : o.op = .call { callee := .builtin .min, args := #[x, y], argTypes := ts }) (hx : ev ρ x = some (.int .i64 a)) (hy : ev ρ y = some (.int .i64 b)) : EV P n ρ w o (.int .i64 (Min.min a b)) := by
  intro c hr
  have e : (if b < a then b else a) = Min.min a b := by simp only [Int.min_def]; split <;> split <;> omega
  simp [execOp, ho, resolve, hr.ev hx, hr.ev hy, invoke, builtin, Builtin.min_, Builtin.min2, ← e]
theorem EV.eqB {o : Oper} {t t' : Nat} {x y : Operand} {a b : Bool} (ho : o.op = .binOp .eql t x y t') (ht : tyD P t = some .bool) (hx : ev ρ x = some (.bool a)) (hy : ev ρ y = some (.bool b)) : EV P n ρ w o (.bool (a == b)) := by
  intro c hr
  have hu := run_equal_bool (P := P) (w := w) (a := a) (b := b) (td_bool (tyD_ok ht))
  simp only [execOp, ho, hr.ev hx, hr.ev hy]
  simp [eqGuard, binOp, hu]
theorem EV.neB {o : Oper} {t t' : Nat} {x y : Operand} {a b : Bool} (ho : o.op = .binOp .neq t x y t') (ht : tyD P t = some .bool) (hx : ev ρ x = some (.bool a)) (hy : ev ρ y = some (.bool b)) : EV P n ρ w o (.bool (!(a == b))) := by
  intro c hr
  have hu := run_equal_bool (P := P) (w := w) (a := a) (b := b) (td_bool (tyD_ok ht))
  simp only [execOp, ho, hr.ev hx, hr.ev hy]
  simp [eqGuard, binOp, hu]
/-- An element of a slice that was told of at an earlier world. -/
theorem Ops.rdB {α : Type} {enc : α → Value} {z : α} {o1 o2 : Oper} {d1 d2 t t' e : Nat} {x y : Operand} {v : Value} {i : Int} {xs : List α} {w0 : World} {c1 c2 : Bool}
    (ho : o1.op = .indexAddr t x y) (hd1 : o1.dst = some d1) (hg1 : gdB all ρ o1.guard = some c1) (hc1 : c1 = true) (ho2 : o2.op = .load t' (.tmp d1)) (hd2 : o2.dst = some d2) (hg2 : ∀ p, gdB all ((d1, .pointer p) :: ρ) o2.guard = some c2) (hc2 : c2 = true)
    (ht : tyD P t = some (.slice e)) (hs : tyS P e = some 1) (ha : tyAgg P t' = some false) (hx : ev ρ x = some v) (hy : ev ρ y = some (.int .i64 i)) (hsl : Sl enc z w0 v xs) (hb : Below w0.heap.size w0 w) (h0 : 0 ≤ i) (h1 : i < xs.length)
    (hk : ∀ p, Ops md P n ds all k Φ l ((d2, enc (xs.getD i.toNat z)) :: (d1, p) :: ρ) w) : Ops md P n ds all k Φ (o1 :: o2 :: l) ρ w := by
  obtain ⟨hm, A, c, rfl, h⟩ := hsl
  obtain ⟨a, rfl, hc⟩ := h (by omega)
  refine Ops.evG hd1 hg1 hc1 (EV.idx ho ht hs hx hy h0 h1) ?_
  rw [Nat.mul_one]
  exact Ops.evG hd2 (hg2 _) hc2 (EV.ld ho2 ha (ev_top _ _ _) (cell_kp (Kp.of_below (S := fun _ => False) hb) (hc i.toNat (by omega)) (fun e => e))) (hk _)
theorem Ops.rdBn {α : Type} {enc : α → Value} {z : α} {o1 o2 : Oper} {d1 d2 t t' e : Nat} {x y : Operand} {v : Value} {i : Nat} {xs : List α} {w0 : World} {c1 c2 : Bool}
    (ho : o1.op = .indexAddr t x y) (hd1 : o1.dst = some d1) (hg1 : gdB all ρ o1.guard = some c1) (hc1 : c1 = true) (ho2 : o2.op = .load t' (.tmp d1)) (hd2 : o2.dst = some d2) (hg2 : ∀ p, gdB all ((d1, .pointer p) :: ρ) o2.guard = some c2) (hc2 : c2 = true)
    (ht : tyD P t = some (.slice e)) (hs : tyS P e = some 1) (ha : tyAgg P t' = some false) (hx : ev ρ x = some v) (hy : ev ρ y = some (.int .i64 (i : Int))) (hsl : Sl enc z w0 v xs) (hb : Below w0.heap.size w0 w) (h1 : i < xs.length)
    (hk : ∀ p, Ops md P n ds all k Φ l ((d2, enc (xs.getD i z)) :: (d1, p) :: ρ) w) : Ops md P n ds all k Φ (o1 :: o2 :: l) ρ w :=
  Ops.rdB ho hd1 hg1 hc1 ho2 hd2 hg2 hc2 ht hs ha hx hy hsl hb (by omega) (by omega) hk
theorem OrdA.rdSn {α : Type} {enc : α → Value} {z : α} {i1 i2 d1 d2 t t' e : Nat} {o1 o2 : Oper} {x y : Operand} {v : Value} {i : Nat} {xs : List α} {w0 : World} {c1 c2 : Bool}
    (h1 : all[i1]? = some o1) (ho : o1.op = .indexAddr t x y) (hd1 : o1.dst = some d1) (hg1 : gdB all ρ o1.guard = some c1) (hc1 : c1 = true)
    (h2 : all[i2]? = some o2) (ho2 : o2.op = .load t' (.tmp d1)) (hd2 : o2.dst = some d2) (hg2 : ∀ p, gdB all ((d1, .pointer p) :: ρ) o2.guard = some c2) (hc2 : c2 = true)
    (ht : tyD P t = some (.slice e)) (hs : tyS P e = some 1) (ha : tyAgg P t' = some false) (hx : ev ρ x = some v) (hy : ev ρ y = some (.int .i64 (i : Int))) (hsl : Sl enc z w0 v xs) (hF : ∀ w, F w → Below w0.heap.size w0 w) (hi : i < xs.length)
    (hk : ∀ p, OrdA P n ds all k Φ s F π ((L.set i1 true).set i2 true) ((d2, enc (xs.getD i z)) :: (d1, p) :: ρ)) : OrdA P n ds all k Φ s F ((i1, 1) :: (i2, 2) :: π) L ρ :=
  OrdA.rdS h1 ho hd1 hg1 hc1 h2 ho2 hd2 hg2 hc2 ht hs ha hx hy hsl hF (by omega) (by omega) hk
omit hT in
/-- A guard that is decided. -/
theorem OrdA.lit {i m j g : Nat} {want b c : Bool} {o : Oper} (ho : all[i]? = some o) (hg : o.guard = some (j, want)) (hj : (all[j]?).bind (·.dst) = some g) (hv : VW.look ρ g = some (.bool b)) (hb : b = c)
    (h : OrdA P n ds all k Φ s F ((i, m) :: π) L ((g, .bool c) :: ρ)) : OrdA P n ds all k Φ s F ((i, m) :: π) L ρ := by
  intro h1 h2 h3 h4 h5 a hr hd
  refine h h1 h2 h3 h4 h5 a ⟨hr.size, fun t v hl => ?_⟩ hd
  simp only [look] at hl
  cases hb2 : Nat.beq g t with
  | true =>
    rw [hb2] at hl
    have := Nat.eq_of_beq_eq_true hb2
    subst this
    simp at hl
    rw [← hl, ← hb]
    exact hr.slot _ _ hv
  | false => rw [hb2] at hl; exact hr.slot _ _ hl
omit hT in
/-- Branches. -/
theorem W.condD {c : Operand} {x y : Code} {p : Prop} [Decidable p] (hc : ev ρ c = some (.bool (decide p))) (ht : p → W P n ds (.code x :: k) Φ ρ w) (hf : ¬ p → W P n ds (.code y :: k) Φ ρ w) : W P n ds (.code (.cond c x y) :: k) Φ ρ w :=
  W.cond hc (fun h => ht (by simpa using h)) (fun h => hf (by simpa using h))
omit hT in
theorem W.condE {c : Operand} {x y : Code} {p q : Int} (hc : ev ρ c = some (.bool (p == q))) (ht : p = q → W P n ds (.code x :: k) Φ ρ w) (hf : ¬ p = q → W P n ds (.code y :: k) Φ ρ w) : W P n ds (.code (.cond c x y) :: k) Φ ρ w :=
  W.cond hc (fun h => ht (by simpa using h)) (fun h => hf (by simpa using h))
omit hT in
theorem W.condN {c : Operand} {x y : Code} {p q : Int} (hc : ev ρ c = some (.bool (p != q))) (ht : ¬ p = q → W P n ds (.code x :: k) Φ ρ w) (hf : p = q → W P n ds (.code y :: k) Φ ρ w) : W P n ds (.code (.cond c x y) :: k) Φ ρ w :=
  W.cond hc (fun h => ht (by simpa using h)) (fun h => hf (by simpa using h))
omit hT in
theorem W.condT {c : Operand} {x y : Code} {b : Bool} (hc : ev ρ c = some (.bool b)) (hb : b = true) (h : W P n ds (.code x :: k) Φ ρ w) : W P n ds (.code (.cond c x y) :: k) Φ ρ w :=
  W.cond hc (fun _ => h) (fun e => by rw [hb] at e; cases e)
omit hT in
theorem W.condF {c : Operand} {x y : Code} {b : Bool} (hc : ev ρ c = some (.bool b)) (hb : b = false) (h : W P n ds (.code y :: k) Φ ρ w) : W P n ds (.code (.cond c x y) :: k) Φ ρ w :=
  W.cond hc (fun e => by rw [hb] at e; cases e) (fun _ => h)
end
end Go.Proofs.Ytdiljpnfochndaa.VW
/- Slices of the call's own, as lists. -/
namespace Go.Proofs.Ytdiljpnfochndaa.VW
open Go Go.RowKit
theorem Below.put {w0 w w' : World} {S : Nat → Prop} (h : Below w0.heap.size w0 w) (k : Kp S w w') (hs : ∀ i, S i → w0.heap.size ≤ i) : Below w0.heap.size w0 w' := Kp.then h h.size k hs
structure OI {α : Type} (e : Nat) (enc : α → Value) (w0 w : World) (ov : Value) (os : List α) : Prop where
  bel : Below w0.heap.size w0 w
  own : w.ownsRow 0 e 1 ov os.length (os.map enc)
  ge : ∀ k, ov.ownBlock = some k → w0.heap.size ≤ k
theorem OI.kp {α : Type} {e : Nat} {enc : α → Value} {w0 w w' : World} {ov : Value} {os : List α} {S : Nat → Prop} (h : OI e enc w0 w ov os) (k : Kp S w w') (hs : ∀ i, S i → w0.heap.size ≤ i ∧ ov.ownBlock ≠ some i) : OI e enc w0 w' ov os :=
  ⟨Below.put h.bel k (fun i hi => (hs i hi).1), own_kp h.own k (fun i hi e => (hs i e).2 hi), h.ge⟩
theorem OI.sl {α : Type} {e : Nat} {enc : α → Value} {z : α} {w0 w : World} {ov : Value} {os : List α} (h : OI e enc w0 w ov os) : Sl enc z w ov os := own_sl h.own
/-- New memory alone was made. -/
theorem OI.below {α : Type} {e : Nat} {enc : α → Value} {w0 w w' : World} {ov : Value} {os : List α} (h : OI e enc w0 w ov os) (k : Below w.heap.size w w') : OI e enc w0 w' ov os :=
  ⟨Below.via h.bel k, own_kp h.own (Kp.of_below (S := fun _ => False) k) (fun _ _ e => e), h.ge⟩
theorem OI.up {α : Type} {e : Nat} {enc : α → Value} {w0 w1 w : World} {ov : Value} {os : List α} (h : OI e enc w1 w ov os) (k : Below w0.heap.size w0 w1) : OI e enc w0 w ov os :=
  ⟨Below.via k h.bel, h.own, fun i hi => by have := h.ge i hi; have := k.size; omega⟩
theorem OI.nil {α : Type} {e : Nat} {enc : α → Value} {w0 w : World} (h : Below w0.heap.size w0 w) : OI e enc w0 w (.slice none 0 0) [] := ⟨h, World.ownsRow_nil w 0 e 1, fun k hk => by simp [Value.ownBlock] at hk⟩
theorem OI.of {α : Type} {e : Nat} {enc : α → Value} {w0 w : World} {ov : Value} {os : List α} (h1 : Below w0.heap.size w0 w) (h2 : w.ownsRow 0 e 1 ov os.length (os.map enc)) (h3 : ∀ k, ov.ownBlock = some k → w0.heap.size ≤ k) : OI e enc w0 w ov os := ⟨h1, h2, h3⟩
theorem OI.sh {α : Type} {e : Nat} {enc : α → Value} {w0 w : World} {ov : Value} {os : List α} (h : OI e enc w0 w ov os) : ∃ A c, ov = .slice A os.length c := by
  have hs := h.own
  rcases hs.2 with ⟨h1, h2⟩ | ⟨g, cap, cur, h1, _⟩
  · exact ⟨none, 0, by rw [h1, h2]⟩
  · exact ⟨_, _, h1⟩
/-- Any slice of a list of one element values. -/
theorem lst_nat {i : Int} {n : Nat} (h0 : 0 ≤ i) (h : i < n) : i.toNat < n := by omega
section
variable {P : Program} [hT : Tab P] {n : Nat} {ds : List Deferred} {Φ : Post} {k : List It} {ρ : E} {w : World} {all : Array Oper} {l : List Oper} {md : Option (List Oper)}
theorem Ops.mkO {α : Type} (enc : α → Value) (z0 : α) {w0 : World} {o : Oper} {d t e by' : Nat} {x y : Operand} {i : Nat} (ho : o.op = .makeSlice t x y) (hd : o.dst = some d) (hg : o.guard = none)
    (ht : tyD P t = some (.slice e)) (hs : tyS P e = some 1) (hb : tyB P e = some (by' + 1)) (hz : tyZ P e = some (enc z0)) (hx : ev ρ x = some (.int .i64 (i : Int))) (hy : ev ρ y = some (.int .i64 (i : Int))) (h1 : i * (by' + 1) ≤ 140737488355328) (hz1 : (enc z0).cells = #[enc z0]) (hbel : Below w0.heap.size w0 w)
    (hk : ∀ w' r, OI e enc w0 w' (.slice (some ⟨r, 0, none⟩) i i) (List.replicate i z0) → Kp (fun _ => False) w w' → w.heap.size ≤ r → Ops none P n ds all k Φ l ((d, .slice (some ⟨r, 0, none⟩) i i) :: ρ) w') : Ops none P n ds all k Φ (o :: l) ρ w := by
  refine Ops.mkS ho hd hg ht hs hb hz hx hy (by omega) (by simpa using h1) (fun w' r hr k1 hl hown => ?_)
  simp only [Int.toNat_natCast] at hown ⊢
  refine hk w' r ⟨Below.put hbel k1 (fun _ e => e.elim), ?_, fun j hj => by simp [Value.ownBlock] at hj; have := hbel.size; omega⟩ k1 (by omega)
  have hm : (madeCells (enc z0).cells (i * 1)).toList = (List.replicate i z0).map enc := by rw [madeCells_one hz1, Nat.mul_one, List.map_replicate]
  rw [List.length_replicate, ← hm]
  exact hown
theorem Ops.wrO {α : Type} {enc : α → Value} {w0 : World} {o1 o2 : Oper} {d1 t t' e : Nat} {x y z : Operand} {v : Value} {u : α} {i : Nat} {os : List α}
    (ho : o1.op = .indexAddr t x y) (hd1 : o1.dst = some d1) (hg1 : o1.guard = none) (ho2 : o2.op = .store t' (.tmp d1) z) (hd2 : o2.dst = none) (hg2 : o2.guard = none)
    (ht : tyD P t = some (.slice e)) (hs : tyS P e = some 1) (hs' : tyS P t' = some 1) (hx : ev ρ x = some v) (hy : ev ρ y = some (.int .i64 (i : Int))) (hz : ev ρ z = some (enc u)) (hzd : z ≠ .tmp d1) (h1c : (enc u).oneCell' = true)
    (hO : OI e enc w0 w v os) (h1 : i < os.length)
    (hk : ∀ w' p, OI e enc w0 w' v (os.set i u) → Kp (fun b => v.ownBlock = some b) w w' → w'.heap.size = w.heap.size → Ops none P n ds all k Φ l ((d1, p) :: ρ) w') : Ops none P n ds all k Φ (o1 :: o2 :: l) ρ w := by
  refine Ops.wrS ho hd1 hg1 ho2 hd2 hg2 ht hs hs' hx hy hz hzd h1c hO.own (by omega) (by omega) (fun w' p hown k1 hsz => hk w' p ⟨Below.put hO.bel k1 (fun i hi => hO.ge i hi), ?_, hO.ge⟩ k1 hsz)
  rw [List.length_set, List.map_set]
  exact hown
theorem Ops.wrOi {α : Type} {enc : α → Value} {w0 : World} {o1 o2 : Oper} {d1 t t' e : Nat} {x y z : Operand} {v : Value} {u : α} {i : Int} {os : List α}
    (ho : o1.op = .indexAddr t x y) (hd1 : o1.dst = some d1) (hg1 : o1.guard = none) (ho2 : o2.op = .store t' (.tmp d1) z) (hd2 : o2.dst = none) (hg2 : o2.guard = none)
    (ht : tyD P t = some (.slice e)) (hs : tyS P e = some 1) (hs' : tyS P t' = some 1) (hx : ev ρ x = some v) (hy : ev ρ y = some (.int .i64 i)) (hz : ev ρ z = some (enc u)) (hzd : z ≠ .tmp d1) (h1c : (enc u).oneCell' = true)
    (hO : OI e enc w0 w v os) (h0 : 0 ≤ i) (h1 : i < os.length)
    (hk : ∀ w' p, OI e enc w0 w' v (os.set i.toNat u) → Kp (fun b => v.ownBlock = some b) w w' → w'.heap.size = w.heap.size → Ops none P n ds all k Φ l ((d1, p) :: ρ) w') : Ops none P n ds all k Φ (o1 :: o2 :: l) ρ w := by
  obtain ⟨q, rfl⟩ := Int.eq_ofNat_of_zero_le h0
  exact Ops.wrO ho hd1 hg1 ho2 hd2 hg2 ht hs hs' hx hy hz hzd h1c hO (by omega) hk
theorem Ops.pushO {α : Type} {enc : α → Value} {w0 : World} {o1 o2 : Oper} {d1 d2 t e by' : Nat} {x y : Operand} {u : α} {lv z : Value} {xs : List α}
    (h1 : o1.op = .buildSlice t 1 #[(0, x)]) (hd1 : o1.dst = some d1) (hg1 : o1.guard = none) (h2 : o2.op = .call { callee := .builtin .append, args := #[y, .tmp d1], argTypes := #[t, t] }) (hd2 : o2.dst = some d2) (hg2 : o2.guard = none)
    (ht : tyD P t = some (.slice e)) (hs : tyS P e = some 1) (hb : tyB P e = some (by' + 1)) (hz : tyZ P e = some z) (hzs : z.cells.size = 1) (hx : ev ρ x = some (enc u)) (hy : ∀ p, ev ((d1, p) :: ρ) y = some lv) (hu : (enc u).oneCell' = true)
    (hO : OI e enc w0 w lv xs) (hbytes : (xs.length + 1) * (by' + 1) ≤ 140737488355328)
    (hk : ∀ lv' p w', OI e enc w0 w' lv' (xs ++ [u]) → Kp (fun i => lv.ownBlock = some i) w w' → (∀ i, lv'.ownBlock = some i → lv.ownBlock = some i ∨ w.heap.size ≤ i) → Ops none P n ds all k Φ l ((d2, lv') :: (d1, p) :: ρ) w') : Ops none P n ds all k Φ (o1 :: o2 :: l) ρ w :=
  Ops.push h1 hd1 hg1 h2 hd2 hg2 ht hs hb hz hzs hx hy hu hO.own hbytes (fun lv' p w' hown k1 hn => hk lv' p w' ⟨Below.put hO.bel k1 (fun i hi => hO.ge i hi), by simpa using hown, fun i hi => by rcases hn i hi with e | e; exact hO.ge i e; have := hO.bel.size; omega⟩ k1 hn)
theorem Ops.appO {α : Type} {enc : α → Value} (z0 : α) {w0 w1 : World} {o : Oper} {d t e by' : Nat} {x y : Operand} {v yv z : Value} {xs ys : List α} (ho : o.op = .call { callee := .builtin .append, args := #[x, y], argTypes := #[t, t] }) (hd : o.dst = some d) (hg : o.guard = none)
    (ht : tyD P t = some (.slice e)) (hs : tyS P e = some 1) (hb : tyB P e = some (by' + 1)) (hz : tyZ P e = some z) (hzs : z.cells.size = 1) (hx : ev ρ x = some v) (hy : ev ρ y = some yv)
    (hO : OI e enc w0 w v xs) (hys : Sl enc z0 w1 yv ys) (hb1 : Below w1.heap.size w1 w) (h1 : ∀ u, (enc u).oneCell' = true) (hbytes : (xs.length + ys.length) * (by' + 1) ≤ 140737488355328)
    (hk : ∀ v' w', OI e enc w0 w' v' (xs ++ ys) → Kp (fun i => v.ownBlock = some i) w w' → (∀ i, v'.ownBlock = some i → v.ownBlock = some i ∨ w.heap.size ≤ i) → Ops none P n ds all k Φ l ((d, v') :: ρ) w') : Ops none P n ds all k Φ (o :: l) ρ w :=
  Ops.appS ho hd hg ht hs hb hz hzs hx hy hO.own (hys.below hb1) h1 hbytes (fun v' w' hown k1 hn => hk v' w' ⟨Below.put hO.bel k1 (fun i hi => hO.ge i hi), by simpa using hown, fun i hi => by rcases hn i hi with e | e; exact hO.ge i e; have := hO.bel.size; omega⟩ k1 hn)
end
end Go.Proofs.Ytdiljpnfochndaa.VW
namespace Go.Proofs.Ytdiljpnfochndaa
open Go Go.RowKit Go.Proofs.Ytdiljpnfochndaa.VW
open Go.Proofs.Ytdiljpnfochndaa.HP (Nd kid wor leafB rd evB gameOf gameOf_TF ValP far TF Dn k_)
attribute [local irreducible] W Ops
theorem evB_kid {l : List Nd} {dep : List Int} (hT : TF l dep) {i j : Nat} (hi : i < l.length) (hj : j < (kid l i).length) : evB dep ((kid l i).getD j 0) = !evB dep i := by
  have h1 := hT.kdep i j hi hj
  have h2 := hT.dbd i
  simp only [k_] at h1
  unfold evB
  rw [h1]
  simp only [rd, Int.toNat_natCast]
  generalize dep.getD i 0 = d at *
  rw [Int.tmod_eq_emod_of_nonneg (by omega), Int.tmod_eq_emod_of_nonneg (by omega)]
  by_cases h : d % 2 = 0
  · rw [h, show (d + 1) % 2 = 1 by omega]; rfl
  · rw [show d % 2 = 1 by omega, show (d + 1) % 2 = 0 by omega]; rfl
/-- Which nodes are known after j children of node i. -/
def EvI (l : List Nd) (dep : List Int) (i j : Nat) (bs : List Bool) : Prop := bs.length = l.length ∧ bs.getD 0 false = true ∧ ∀ a b, Dn i j a b → b < (kid l a).length → bs.getD (k_ l a b).toNat false = evB dep (k_ l a b)
theorem EvI.step {l : List Nd} {dep : List Int} (hT : TF l dep) {i j : Nat} {bs : List Bool} (hi : i < l.length) (hj : j < (kid l i).length) (h : EvI l dep i j bs) : EvI l dep i (j + 1) (bs.set ((kid l i).getD j 0).toNat (!evB dep i)) := by
  obtain ⟨h1, h2, h3⟩ := h
  have hk := hT.kin i j hi hj
  simp only [k_] at hk
  refine ⟨by simpa using h1, by rw [lgetD_set_ne (by omega)]; exact h2, fun a b hd hb => ?_⟩
  by_cases e : a = i ∧ b = j
  · obtain ⟨rfl, rfl⟩ := e
    unfold k_
    rw [lgetD_set_eq (by omega), evB_kid hT hi hj]
  · have hd' : Dn i j a b := by unfold Dn at *; omega
    have ha : a < l.length := by unfold Dn at hd'; omega
    have hk2 := hT.kin a b ha hb
    rw [lgetD_set_ne (fun e2 => e (hT.inj a b i j ha hb hi hj (by simp only [k_] at *; omega)))]
    exact h3 a b hd' hb
theorem EvI.at_ {l : List Nd} {dep : List Int} (hT : TF l dep) {i j : Nat} {bs : List Bool} (hi : i < l.length) (h : EvI l dep i j bs) (h0 : dep.getD 0 0 = 0) : bs.getD i false = evB dep i := by
  obtain ⟨h1, h2, h3⟩ := h
  by_cases e : i = 0
  · subst e
    rw [h2]
    unfold evB
    simp only [rd]
    rw [show ((0 : Nat) : Int).toNat = 0 from rfl, h0]
    rfl
  · obtain ⟨a, b, ha, hb, hk⟩ := hT.cov i (by omega) hi
    have := hT.kin a b ha hb
    have := h3 a b (.inl (by omega)) hb
    rw [hk] at this
    simpa using this
theorem even_c {w : World} {v : Value} {l : List Nd} {dep : List Int} (hTr : TreeM w v l) (hT : TF l dep) :
    Calls Try.prog 52 #[v] w (Ret fun r w' => ∃ bs : List Bool, OI 4 Value.bool w w' r bs ∧ bs.length = l.length ∧ ∀ i : Nat, i < l.length → bs.getD i false = evB dep i) := by
  obtain ⟨At, ct, rfl⟩ := hTr.sl
  have hn := hT.n60
  have hn1 := hT.n1
  have hd0 : dep.getD 0 0 = 0 := by have := hT.dbd 0; omega
  refine calls_W (vs := [_]) Try.func52 rfl (by kernel_rfl) rfl ?_
  (repeat (first | with_reducible refine W.seq ?_ | with_reducible refine Ops.nil ?_ | with_reducible refine W.region ?_ | refine Ops.pu rfl rfl rfl ?_ | refine Ops.ar rfl rfl rfl (by omega) ?_ | refine Ops.yes rfl rfl rfl ?_ | refine Ops.no rfl rfl rfl rfl rfl ?_ | refine Ops.nu rfl rfl rfl rfl ?_ | with_reducible refine W.skip ?_ | with_reducible refine W.endb ?_ | with_reducible refine W.block ?_ | refine W.exit rfl ?_ | refine Ops.len rfl rfl rfl rfl rfl ?_ | refine Ops.flp rfl rfl rfl rfl rfl ?_ | refine Ops.max rfl rfl rfl rfl rfl ?_ | refine Ops.min rfl rfl rfl rfl rfl ?_ | refine Ops.eqB rfl rfl rfl rfl rfl rfl ?_ | refine Ops.neB rfl rfl rfl rfl rfl rfl ?_ | (apply Ops.ldB rfl rfl rfl rfl rfl; assumption; rfl)))
  refine Ops.mkS rfl rfl rfl rfl rfl rfl rfl rfl rfl (by omega) (by simp; omega) (fun w1 dr hdr k1 hdl hown => ?_)
  simp only [Int.toNat_natCast] at hown ⊢
  have hb1 : Below w.heap.size w w1 := k1.below (Nat.le_refl _) (fun _ _ e => e)
  have hm : (madeCells (Value.bool false).cells (l.length * 1)).toList = (List.replicate l.length false).map Value.bool := by
    rw [madeCells_one rfl, Nat.mul_one, List.map_replicate]
  have hO1 : OI 4 Value.bool w w1 (.slice (some ⟨dr, 0, none⟩) l.length l.length) (List.replicate l.length false) := by
    refine ⟨hb1, ?_, fun k hk => by simp [Value.ownBlock] at hk; omega⟩
    rw [← hm, List.length_replicate]
    exact hown
  (repeat (first | with_reducible refine W.seq ?_ | with_reducible refine Ops.nil ?_ | with_reducible refine W.region ?_ | refine Ops.pu rfl rfl rfl ?_ | refine Ops.ar rfl rfl rfl (by omega) ?_ | refine Ops.yes rfl rfl rfl ?_ | refine Ops.no rfl rfl rfl rfl rfl ?_ | refine Ops.nu rfl rfl rfl rfl ?_ | with_reducible refine W.skip ?_ | with_reducible refine W.endb ?_ | with_reducible refine W.block ?_ | refine W.exit rfl ?_ | refine Ops.len rfl rfl rfl rfl rfl ?_ | refine Ops.flp rfl rfl rfl rfl rfl ?_ | refine Ops.max rfl rfl rfl rfl rfl ?_ | refine Ops.min rfl rfl rfl rfl rfl ?_ | refine Ops.eqB rfl rfl rfl rfl rfl rfl ?_ | refine Ops.neB rfl rfl rfl rfl rfl rfl ?_ | (apply Ops.ldB rfl rfl rfl rfl rfl; assumption; rfl)))
  refine Ops.wrS rfl rfl rfl rfl rfl rfl rfl rfl rfl rfl rfl rfl (by simp) rfl hO1.own (by omega) (by simp; omega) (fun w2 p hown2 k2 _ => ?_)
  have hO2 : OI 4 Value.bool w w2 (.slice (some ⟨dr, 0, none⟩) l.length l.length) ((List.replicate l.length false).set 0 true) :=
    ⟨Below.at_ hb1 k2 (fun i hi => hO1.ge i hi), by rw [List.length_set, List.map_set]; exact hown2, hO1.ge⟩
  have hE2 : EvI l dep 0 0 ((List.replicate l.length false).set 0 true) := ⟨by simp, lgetD_set_eq (by simp; omega), fun a b hd => by unfold Dn at hd; omega⟩
  generalize (List.replicate l.length false).set 0 true = bs2 at *
  clear hO1 hown hm hown2 k2 k1
  (repeat (first | with_reducible refine W.seq ?_ | with_reducible refine Ops.nil ?_ | with_reducible refine W.region ?_ | refine Ops.pu rfl rfl rfl ?_ | refine Ops.ar rfl rfl rfl (by omega) ?_ | refine Ops.yes rfl rfl rfl ?_ | refine Ops.no rfl rfl rfl rfl rfl ?_ | refine Ops.nu rfl rfl rfl rfl ?_ | with_reducible refine W.skip ?_ | with_reducible refine W.endb ?_ | with_reducible refine W.block ?_ | refine W.exit rfl ?_ | refine Ops.len rfl rfl rfl rfl rfl ?_ | refine Ops.flp rfl rfl rfl rfl rfl ?_ | refine Ops.max rfl rfl rfl rfl rfl ?_ | refine Ops.min rfl rfl rfl rfl rfl ?_ | refine Ops.eqB rfl rfl rfl rfl rfl rfl ?_ | refine Ops.neB rfl rfl rfl rfl rfl rfl ?_ | (apply Ops.ldB rfl rfl rfl rfl rfl; assumption; rfl)))
  refine W.loop (fun m ρ w3 => ∃ (i : Nat) (bs : List Bool), m = l.length - i ∧ i ≤ l.length ∧ ρ = [(0, .slice At l.length ct), (3, .slice (some ⟨dr, 0, none⟩) l.length l.length), (4, .int .i64 i)] ∧ OI 4 Value.bool w w3 (.slice (some ⟨dr, 0, none⟩) l.length l.length) bs ∧ EvI l dep i 0 bs)
    ⟨_, _, ⟨0, _, rfl, Nat.zero_le _, rfl, hO2, hE2⟩, (by repeat (first | exact trivial | refine And.intro rfl ?_))⟩ ?_
  clear hO2 hE2
  rintro m ρ w3 ⟨i, bs, rfl, hi, rfl, hO, hE⟩
  (repeat (first | with_reducible refine W.seq ?_ | with_reducible refine Ops.nil ?_ | with_reducible refine W.region ?_ | refine Ops.pu rfl rfl rfl ?_ | refine Ops.ar rfl rfl rfl (by omega) ?_ | refine Ops.yes rfl rfl rfl ?_ | refine Ops.no rfl rfl rfl rfl rfl ?_ | refine Ops.nu rfl rfl rfl rfl ?_ | with_reducible refine W.skip ?_ | with_reducible refine W.endb ?_ | with_reducible refine W.block ?_ | refine W.exit rfl ?_ | refine Ops.len rfl rfl rfl rfl rfl ?_ | refine Ops.flp rfl rfl rfl rfl rfl ?_ | refine Ops.max rfl rfl rfl rfl rfl ?_ | refine Ops.min rfl rfl rfl rfl rfl ?_ | refine Ops.eqB rfl rfl rfl rfl rfl rfl ?_ | refine Ops.neB rfl rfl rfl rfl rfl rfl ?_ | (apply Ops.ldB rfl rfl rfl rfl rfl; assumption; rfl)))
  refine W.cond rfl (fun hc => ?_) (fun hc => ?_)
  · have hlt : i < l.length := by simp at hc; omega
    (repeat (first | with_reducible refine W.seq ?_ | with_reducible refine Ops.nil ?_ | with_reducible refine W.region ?_ | refine Ops.pu rfl rfl rfl ?_ | refine Ops.ar rfl rfl rfl (by omega) ?_ | refine Ops.yes rfl rfl rfl ?_ | refine Ops.no rfl rfl rfl rfl rfl ?_ | refine Ops.nu rfl rfl rfl rfl ?_ | with_reducible refine W.skip ?_ | with_reducible refine W.endb ?_ | with_reducible refine W.block ?_ | refine W.exit rfl ?_ | refine Ops.len rfl rfl rfl rfl rfl ?_ | refine Ops.flp rfl rfl rfl rfl rfl ?_ | refine Ops.max rfl rfl rfl rfl rfl ?_ | refine Ops.min rfl rfl rfl rfl rfl ?_ | refine Ops.eqB rfl rfl rfl rfl rfl rfl ?_ | refine Ops.neB rfl rfl rfl rfl rfl rfl ?_ | (apply Ops.ldB rfl rfl rfl rfl rfl; assumption; rfl)))
    refine W.loop (fun m ρ w4 => ∃ (j : Nat) (bs : List Bool), m = (kid l i).length - j ∧ j ≤ (kid l i).length ∧ ρ = [(0, .slice At l.length ct), (3, .slice (some ⟨dr, 0, none⟩) l.length l.length), (4, .int .i64 i), (5, .int .i64 j)] ∧ OI 4 Value.bool w w4 (.slice (some ⟨dr, 0, none⟩) l.length l.length) bs ∧ EvI l dep i j bs)
      ⟨_, _, ⟨0, _, rfl, Nat.zero_le _, rfl, hO, hE⟩, (by repeat (first | exact trivial | refine And.intro rfl ?_))⟩ ?_
    rintro m ρ w4 ⟨j, bs, rfl, hj, rfl, hO, hE⟩
    have hkl := hT.klen i hlt
    (repeat (first | with_reducible refine W.seq ?_ | with_reducible refine Ops.nil ?_ | with_reducible refine W.region ?_ | refine Ops.pu rfl rfl rfl ?_ | refine Ops.ar rfl rfl rfl (by omega) ?_ | refine Ops.yes rfl rfl rfl ?_ | refine Ops.no rfl rfl rfl rfl rfl ?_ | refine Ops.nu rfl rfl rfl rfl ?_ | with_reducible refine W.skip ?_ | with_reducible refine W.endb ?_ | with_reducible refine W.block ?_ | refine W.exit rfl ?_ | refine Ops.len rfl rfl rfl rfl rfl ?_ | refine Ops.flp rfl rfl rfl rfl rfl ?_ | refine Ops.max rfl rfl rfl rfl rfl ?_ | refine Ops.min rfl rfl rfl rfl rfl ?_ | refine Ops.eqB rfl rfl rfl rfl rfl rfl ?_ | refine Ops.neB rfl rfl rfl rfl rfl rfl ?_ | (apply Ops.ldB rfl rfl rfl rfl rfl; assumption; rfl)))
    refine Ops.rdK rfl rfl rfl rfl rfl rfl rfl rfl rfl rfl rfl rfl rfl rfl rfl hTr hO.bel (by omega) (by omega) (fun cv p q hcv => ?_)
    obtain ⟨Ac, cc, rfl⟩ := Sl.sl hcv
    (repeat (first | with_reducible refine W.seq ?_ | with_reducible refine Ops.nil ?_ | with_reducible refine W.region ?_ | refine Ops.pu rfl rfl rfl ?_ | refine Ops.ar rfl rfl rfl (by omega) ?_ | refine Ops.yes rfl rfl rfl ?_ | refine Ops.no rfl rfl rfl rfl rfl ?_ | refine Ops.nu rfl rfl rfl rfl ?_ | with_reducible refine W.skip ?_ | with_reducible refine W.endb ?_ | with_reducible refine W.block ?_ | refine W.exit rfl ?_ | refine Ops.len rfl rfl rfl rfl rfl ?_ | refine Ops.flp rfl rfl rfl rfl rfl ?_ | refine Ops.max rfl rfl rfl rfl rfl ?_ | refine Ops.min rfl rfl rfl rfl rfl ?_ | refine Ops.eqB rfl rfl rfl rfl rfl rfl ?_ | refine Ops.neB rfl rfl rfl rfl rfl rfl ?_ | (apply Ops.ldB rfl rfl rfl rfl rfl; assumption; rfl)))
    refine W.cond rfl (fun hc => ?_) (fun hc => ?_)
    · have hjl : j < (kid l i).length := by simp at hc; omega
      have hkin := hT.kin i j hlt hjl
      simp only [k_] at hkin
      have hbi := hE.at_ hT hlt hd0
      have hst := hE.step hT hlt hjl
      have hel := hE.1
      (repeat (first | with_reducible refine W.seq ?_ | with_reducible refine Ops.nil ?_ | with_reducible refine W.region ?_ | refine Ops.pu rfl rfl rfl ?_ | refine Ops.ar rfl rfl rfl (by omega) ?_ | refine Ops.yes rfl rfl rfl ?_ | refine Ops.no rfl rfl rfl rfl rfl ?_ | refine Ops.nu rfl rfl rfl rfl ?_ | with_reducible refine W.skip ?_ | with_reducible refine W.endb ?_ | with_reducible refine W.block ?_ | refine W.exit rfl ?_ | refine Ops.len rfl rfl rfl rfl rfl ?_ | refine Ops.flp rfl rfl rfl rfl rfl ?_ | refine Ops.max rfl rfl rfl rfl rfl ?_ | refine Ops.min rfl rfl rfl rfl rfl ?_ | refine Ops.eqB rfl rfl rfl rfl rfl rfl ?_ | refine Ops.neB rfl rfl rfl rfl rfl rfl ?_ | (apply Ops.ldB rfl rfl rfl rfl rfl; assumption; rfl)))
      refine W.tail' 14 rfl (by kernel_rfl) (fun w5 k5 _ => ?_)
      have hO5 := hO.kp k5 (fun _ e => e.elim)
      (repeat (first | with_reducible refine W.seq ?_ | with_reducible refine Ops.nil ?_ | with_reducible refine W.region ?_ | refine Ops.pu rfl rfl rfl ?_ | refine Ops.ar rfl rfl rfl (by omega) ?_ | refine Ops.yes rfl rfl rfl ?_ | refine Ops.no rfl rfl rfl rfl rfl ?_ | refine Ops.nu rfl rfl rfl rfl ?_ | with_reducible refine W.skip ?_ | with_reducible refine W.endb ?_ | with_reducible refine W.block ?_ | refine W.exit rfl ?_ | refine Ops.len rfl rfl rfl rfl rfl ?_ | refine Ops.flp rfl rfl rfl rfl rfl ?_ | refine Ops.max rfl rfl rfl rfl rfl ?_ | refine Ops.min rfl rfl rfl rfl rfl ?_ | refine Ops.eqB rfl rfl rfl rfl rfl rfl ?_ | refine Ops.neB rfl rfl rfl rfl rfl rfl ?_ | (apply Ops.ldB rfl rfl rfl rfl rfl; assumption; rfl)))
      refine Ops.rdK rfl rfl rfl rfl rfl rfl rfl rfl rfl rfl rfl rfl rfl rfl rfl hTr hO5.bel (by omega) (by omega) (fun cv2 p q hcv2 => ?_)
      (repeat (first | with_reducible refine W.seq ?_ | with_reducible refine Ops.nil ?_ | with_reducible refine W.region ?_ | refine Ops.pu rfl rfl rfl ?_ | refine Ops.ar rfl rfl rfl (by omega) ?_ | refine Ops.yes rfl rfl rfl ?_ | refine Ops.no rfl rfl rfl rfl rfl ?_ | refine Ops.nu rfl rfl rfl rfl ?_ | with_reducible refine W.skip ?_ | with_reducible refine W.endb ?_ | with_reducible refine W.block ?_ | refine W.exit rfl ?_ | refine Ops.len rfl rfl rfl rfl rfl ?_ | refine Ops.flp rfl rfl rfl rfl rfl ?_ | refine Ops.max rfl rfl rfl rfl rfl ?_ | refine Ops.min rfl rfl rfl rfl rfl ?_ | refine Ops.eqB rfl rfl rfl rfl rfl rfl ?_ | refine Ops.neB rfl rfl rfl rfl rfl rfl ?_ | (apply Ops.ldB rfl rfl rfl rfl rfl; assumption; rfl)))
      refine Ops.rdS (enc := Value.int .i64) (z := (0 : Int)) rfl rfl rfl rfl rfl rfl rfl rfl rfl rfl rfl (Sl.below hcv2 hO5.bel) (by omega) (by omega) (fun p => ?_)
      simp only [Int.toNat_natCast]
      generalize (kid l i).getD j 0 = cj at *
      (repeat (first | with_reducible refine W.seq ?_ | with_reducible refine Ops.nil ?_ | with_reducible refine W.region ?_ | refine Ops.pu rfl rfl rfl ?_ | refine Ops.ar rfl rfl rfl (by omega) ?_ | refine Ops.yes rfl rfl rfl ?_ | refine Ops.no rfl rfl rfl rfl rfl ?_ | refine Ops.nu rfl rfl rfl rfl ?_ | with_reducible refine W.skip ?_ | with_reducible refine W.endb ?_ | with_reducible refine W.block ?_ | refine W.exit rfl ?_ | refine Ops.len rfl rfl rfl rfl rfl ?_ | refine Ops.flp rfl rfl rfl rfl rfl ?_ | refine Ops.max rfl rfl rfl rfl rfl ?_ | refine Ops.min rfl rfl rfl rfl rfl ?_ | refine Ops.eqB rfl rfl rfl rfl rfl rfl ?_ | refine Ops.neB rfl rfl rfl rfl rfl rfl ?_ | (apply Ops.ldB rfl rfl rfl rfl rfl; assumption; rfl)))
      refine Ops.rdS (enc := Value.bool) (z := false) rfl rfl rfl rfl rfl rfl rfl rfl rfl rfl rfl hO5.sl (by omega) (by omega) (fun p => ?_)
      simp only [Int.toNat_natCast]
      rw [hbi]
      (repeat (first | with_reducible refine W.seq ?_ | with_reducible refine Ops.nil ?_ | with_reducible refine W.region ?_ | refine Ops.pu rfl rfl rfl ?_ | refine Ops.ar rfl rfl rfl (by omega) ?_ | refine Ops.yes rfl rfl rfl ?_ | refine Ops.no rfl rfl rfl rfl rfl ?_ | refine Ops.nu rfl rfl rfl rfl ?_ | with_reducible refine W.skip ?_ | with_reducible refine W.endb ?_ | with_reducible refine W.block ?_ | refine W.exit rfl ?_ | refine Ops.len rfl rfl rfl rfl rfl ?_ | refine Ops.flp rfl rfl rfl rfl rfl ?_ | refine Ops.max rfl rfl rfl rfl rfl ?_ | refine Ops.min rfl rfl rfl rfl rfl ?_ | refine Ops.eqB rfl rfl rfl rfl rfl rfl ?_ | refine Ops.neB rfl rfl rfl rfl rfl rfl ?_ | (apply Ops.ldB rfl rfl rfl rfl rfl; assumption; rfl)))
      refine Ops.nilS rfl ?_
      refine Ops.wrS rfl rfl rfl rfl rfl rfl rfl rfl rfl rfl rfl rfl (by simp) rfl hO5.own (by omega) (by omega) (fun w6 p hown6 k6 _ => ?_)
      have hO6 : OI 4 Value.bool w w6 (.slice (some ⟨dr, 0, none⟩) l.length l.length) (bs.set cj.toNat (!evB dep i)) :=
        ⟨Below.at_ hO5.bel k6 (fun i hi => hO5.ge i hi), by rw [List.length_set, List.map_set]; exact hown6, hO5.ge⟩
      (repeat (first | with_reducible refine W.seq ?_ | with_reducible refine Ops.nil ?_ | with_reducible refine W.region ?_ | refine Ops.pu rfl rfl rfl ?_ | refine Ops.ar rfl rfl rfl (by omega) ?_ | refine Ops.yes rfl rfl rfl ?_ | refine Ops.no rfl rfl rfl rfl rfl ?_ | refine Ops.nu rfl rfl rfl rfl ?_ | with_reducible refine W.skip ?_ | with_reducible refine W.endb ?_ | with_reducible refine W.block ?_ | refine W.exit rfl ?_ | refine Ops.len rfl rfl rfl rfl rfl ?_ | refine Ops.flp rfl rfl rfl rfl rfl ?_ | refine Ops.max rfl rfl rfl rfl rfl ?_ | refine Ops.min rfl rfl rfl rfl rfl ?_ | refine Ops.eqB rfl rfl rfl rfl rfl rfl ?_ | refine Ops.neB rfl rfl rfl rfl rfl rfl ?_ | (apply Ops.ldB rfl rfl rfl rfl rfl; assumption; rfl)))
      exact W.endl ⟨_, _, ⟨⟨j + 1, _, rfl, by omega, rfl, hO6, hst⟩, by omega⟩, (by repeat (first | exact trivial | refine And.intro rfl ?_))⟩
    · have hjl : j = (kid l i).length := by simp at hc; omega
      subst hjl
      have hE' : EvI l dep (i + 1) 0 bs := ⟨hE.1, hE.2.1, fun a b hd hb => hE.2.2 a b (by unfold Dn at *; by_cases e : a = i; subst e; exact .inr ⟨rfl, hb⟩; omega) hb⟩
      (repeat (first | with_reducible refine W.seq ?_ | with_reducible refine Ops.nil ?_ | with_reducible refine W.region ?_ | refine Ops.pu rfl rfl rfl ?_ | refine Ops.ar rfl rfl rfl (by omega) ?_ | refine Ops.yes rfl rfl rfl ?_ | refine Ops.no rfl rfl rfl rfl rfl ?_ | refine Ops.nu rfl rfl rfl rfl ?_ | with_reducible refine W.skip ?_ | with_reducible refine W.endb ?_ | with_reducible refine W.block ?_ | refine W.exit rfl ?_ | refine Ops.len rfl rfl rfl rfl rfl ?_ | refine Ops.flp rfl rfl rfl rfl rfl ?_ | refine Ops.max rfl rfl rfl rfl rfl ?_ | refine Ops.min rfl rfl rfl rfl rfl ?_ | refine Ops.eqB rfl rfl rfl rfl rfl rfl ?_ | refine Ops.neB rfl rfl rfl rfl rfl rfl ?_ | (apply Ops.ldB rfl rfl rfl rfl rfl; assumption; rfl)))
      exact W.endl ⟨_, _, ⟨⟨i + 1, _, rfl, by omega, rfl, hO, hE'⟩, by omega⟩, (by repeat (first | exact trivial | refine And.intro rfl ?_))⟩
  · have hlt : i = l.length := by simp at hc; omega
    subst hlt
    (repeat (first | with_reducible refine W.seq ?_ | with_reducible refine Ops.nil ?_ | with_reducible refine W.region ?_ | refine Ops.pu rfl rfl rfl ?_ | refine Ops.ar rfl rfl rfl (by omega) ?_ | refine Ops.yes rfl rfl rfl ?_ | refine Ops.no rfl rfl rfl rfl rfl ?_ | refine Ops.nu rfl rfl rfl rfl ?_ | with_reducible refine W.skip ?_ | with_reducible refine W.endb ?_ | with_reducible refine W.block ?_ | refine W.exit rfl ?_ | refine Ops.len rfl rfl rfl rfl rfl ?_ | refine Ops.flp rfl rfl rfl rfl rfl ?_ | refine Ops.max rfl rfl rfl rfl rfl ?_ | refine Ops.min rfl rfl rfl rfl rfl ?_ | refine Ops.eqB rfl rfl rfl rfl rfl rfl ?_ | refine Ops.neB rfl rfl rfl rfl rfl rfl ?_ | (apply Ops.ldB rfl rfl rfl rfl rfl; assumption; rfl)))
    refine W.fret rfl ⟨bs, hO, hE.1, fun c hc => ?_⟩
    exact EvI.at_ hT (i := c) (j := 0) hc ⟨hE.1, hE.2.1, fun a b hd hb => hE.2.2 a b (by unfold Dn at *; omega) hb⟩ hd0
end Go.Proofs.Ytdiljpnfochndaa
