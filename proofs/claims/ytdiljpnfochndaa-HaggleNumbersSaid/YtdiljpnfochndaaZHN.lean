/- A part of the walk: what this seat's statements share. -/
import Derived.Test.YtdiljpnfochndaaZHM
import Derived.Test.YtdiljpnfochndaaZV10
set_option linter.unusedSectionVars false
set_option linter.unusedVariables false
set_option linter.unusedSimpArgs false
namespace Go.Proofs.Ytdiljpnfochndaa
open Go Go.RowKit Go.Proofs.Ytdiljpnfochndaa.VW
open Go.Proofs.Ytdiljpnfochndaa.HP (Nd kid wor leafB rd evB TF far Ef GoodE gameOf gameOf_TF kidsS srS srS_good kids_good ValP NV NeedP NE)
attribute [local irreducible] W Ops
abbrev smp : List Nd := [([1, 2], 0), ([3, 4], 0), ([5, 6], 0), ([], 3), ([], 5), ([], 2), ([], 9)]
abbrev sdep : List Int := [0, 1, 1, 2, 2, 2, 2]
theorem smp_game : gameOf smp = some sdep := by decide
theorem smp_val {vs : List Int} (h : ValP smp sdep (wor smp) vs) : vs.getD 0 0 = 3 := by
  have h2 : ValP smp sdep (wor smp) [3, 3, 2, 3, 5, 2, 9] := ⟨rfl, by decide⟩
  rw [ValP.uniq (gameOf_TF smp_game) h h2]
  rfl
theorem smp_srch : srS smp sdep smp.length 0 (-far) far = (3, [3, 4, 5]) := by decide
theorem smp_proof {es : List Ef} (h : NeedP smp sdep true (proofF smp 3) es) : es.getD 0 (0, []) = (2, [3, 4]) := by
  have h2 : NeedP smp sdep true (proofF smp 3) [(2, [3, 4]), (2, [3, 4]), (far, [5, 6]), (1, [3]), (1, [4]), (far, [5]), (1, [6])] := ⟨rfl, by decide⟩
  rw [NeedP.uniq (gameOf_TF smp_game) h h2]
  rfl
theorem smp_num {z : Int} {mx : Bool} (h : NumR smp sdep [] 4 mx z) : z = 2 := by
  obtain ⟨es, h, rfl⟩ := h
  cases mx with
  | true =>
    have h2 : NeedP smp sdep true (numF smp [] 4 true) [(2, [3, 4]), (2, [3, 4]), (2, [5, 6]), (1, [3]), (1, [4]), (1, [5]), (1, [6])] := ⟨rfl, by decide⟩
    rw [NeedP.uniq (gameOf_TF smp_game) h h2]
    decide
  | false =>
    have h2 : NeedP smp sdep false (numF smp [] 4 false) [(2, [3, 5]), (1, [3]), (1, [5]), (1, [3]), (1, [4]), (1, [5]), (1, [6])] := ⟨rfl, by decide⟩
    rw [NeedP.uniq (gameOf_TF smp_game) h h2]
    decide
theorem ints_c {w : World} {v1 v2 : Value} {xs ys : List Int} (h1 : SlI w v1 xs) (h2 : SlI w v2 ys) :
    Calls Try.prog 41 #[v1, v2] w (Ret fun r w' => r = .bool (decide (xs = ys)) ∧ Below w.heap.size w w') := by
  have hl1 := Sl.len h1
  have hl2 := Sl.len h2
  obtain ⟨A1, c1, rfl⟩ := Sl.sl h1
  obtain ⟨A2, c2, rfl⟩ := Sl.sl h2
  refine calls_W (vs := [_, _]) Try.func41 rfl (by kernel_rfl) rfl ?_
  (repeat (first | with_reducible refine W.seq ?_ | with_reducible refine Ops.nil ?_ | with_reducible refine W.region ?_ | refine Ops.pu rfl rfl rfl ?_ | refine Ops.ar rfl rfl rfl (by omega) ?_ | refine Ops.yes rfl rfl rfl ?_ | refine Ops.no rfl rfl rfl rfl rfl ?_ | refine Ops.nu rfl rfl rfl rfl ?_ | with_reducible refine W.skip ?_ | with_reducible refine W.endb ?_ | with_reducible refine W.block ?_ | refine W.exit rfl ?_ | refine Ops.len rfl rfl rfl rfl rfl ?_ | refine Ops.flp rfl rfl rfl rfl rfl ?_ | refine Ops.max rfl rfl rfl rfl rfl ?_ | refine Ops.min rfl rfl rfl rfl rfl ?_ | refine Ops.eqB rfl rfl rfl rfl rfl rfl ?_ | refine Ops.neB rfl rfl rfl rfl rfl rfl ?_ | (apply Ops.ldB rfl rfl rfl rfl rfl; assumption; rfl)))
  refine W.cond rfl (fun hc => ?_) (fun hc => ?_)
  · (repeat (first | with_reducible refine W.seq ?_ | with_reducible refine Ops.nil ?_ | with_reducible refine W.region ?_ | refine Ops.pu rfl rfl rfl ?_ | refine Ops.ar rfl rfl rfl (by omega) ?_ | refine Ops.yes rfl rfl rfl ?_ | refine Ops.no rfl rfl rfl rfl rfl ?_ | refine Ops.nu rfl rfl rfl rfl ?_ | with_reducible refine W.skip ?_ | with_reducible refine W.endb ?_ | with_reducible refine W.block ?_ | refine W.exit rfl ?_ | refine Ops.len rfl rfl rfl rfl rfl ?_ | refine Ops.flp rfl rfl rfl rfl rfl ?_ | refine Ops.max rfl rfl rfl rfl rfl ?_ | refine Ops.min rfl rfl rfl rfl rfl ?_ | refine Ops.eqB rfl rfl rfl rfl rfl rfl ?_ | refine Ops.neB rfl rfl rfl rfl rfl rfl ?_ | (apply Ops.ldB rfl rfl rfl rfl rfl; assumption; rfl)))
    refine W.fret rfl ⟨?_, Below.refl _ _⟩
    have hne : xs ≠ ys := by intro e; subst e; simp at hc
    simp [hne, resV]
  · have hll : xs.length = ys.length := by simp at hc; omega
    (repeat (first | with_reducible refine W.seq ?_ | with_reducible refine Ops.nil ?_ | with_reducible refine W.region ?_ | refine Ops.pu rfl rfl rfl ?_ | refine Ops.ar rfl rfl rfl (by omega) ?_ | refine Ops.yes rfl rfl rfl ?_ | refine Ops.no rfl rfl rfl rfl rfl ?_ | refine Ops.nu rfl rfl rfl rfl ?_ | with_reducible refine W.skip ?_ | with_reducible refine W.endb ?_ | with_reducible refine W.block ?_ | refine W.exit rfl ?_ | refine Ops.len rfl rfl rfl rfl rfl ?_ | refine Ops.flp rfl rfl rfl rfl rfl ?_ | refine Ops.max rfl rfl rfl rfl rfl ?_ | refine Ops.min rfl rfl rfl rfl rfl ?_ | refine Ops.eqB rfl rfl rfl rfl rfl rfl ?_ | refine Ops.neB rfl rfl rfl rfl rfl rfl ?_ | (apply Ops.ldB rfl rfl rfl rfl rfl; assumption; rfl)))
    refine W.loop (fun m ρ w3 => ∃ j : Nat, m = xs.length - j ∧ j ≤ xs.length ∧ ρ = [(0, .slice A1 xs.length c1), (1, .slice A2 ys.length c2), (5, .int .i64 j)] ∧ Below w.heap.size w w3 ∧ ∀ k, k < j → xs.getD k 0 = ys.getD k 0)
      ⟨_, _, ⟨0, rfl, Nat.zero_le _, rfl, Below.refl _ _, fun k hk => by omega⟩, (by repeat (first | exact trivial | refine And.intro rfl ?_))⟩ ?_
    rintro m ρ w3 ⟨j, rfl, hj, rfl, hb3, hok⟩
    (repeat (first | with_reducible refine W.seq ?_ | with_reducible refine Ops.nil ?_ | with_reducible refine W.region ?_ | refine Ops.pu rfl rfl rfl ?_ | refine Ops.ar rfl rfl rfl (by omega) ?_ | refine Ops.yes rfl rfl rfl ?_ | refine Ops.no rfl rfl rfl rfl rfl ?_ | refine Ops.nu rfl rfl rfl rfl ?_ | with_reducible refine W.skip ?_ | with_reducible refine W.endb ?_ | with_reducible refine W.block ?_ | refine W.exit rfl ?_ | refine Ops.len rfl rfl rfl rfl rfl ?_ | refine Ops.flp rfl rfl rfl rfl rfl ?_ | refine Ops.max rfl rfl rfl rfl rfl ?_ | refine Ops.min rfl rfl rfl rfl rfl ?_ | refine Ops.eqB rfl rfl rfl rfl rfl rfl ?_ | refine Ops.neB rfl rfl rfl rfl rfl rfl ?_ | (apply Ops.ldB rfl rfl rfl rfl rfl; assumption; rfl)))
    refine W.cond rfl (fun hc => ?_) (fun hc => ?_)
    · have hlt : j < xs.length := by simp at hc; omega
      (repeat (first | with_reducible refine W.seq ?_ | with_reducible refine Ops.nil ?_ | with_reducible refine W.region ?_ | refine Ops.pu rfl rfl rfl ?_ | refine Ops.ar rfl rfl rfl (by omega) ?_ | refine Ops.yes rfl rfl rfl ?_ | refine Ops.no rfl rfl rfl rfl rfl ?_ | refine Ops.nu rfl rfl rfl rfl ?_ | with_reducible refine W.skip ?_ | with_reducible refine W.endb ?_ | with_reducible refine W.block ?_ | refine W.exit rfl ?_ | refine Ops.len rfl rfl rfl rfl rfl ?_ | refine Ops.flp rfl rfl rfl rfl rfl ?_ | refine Ops.max rfl rfl rfl rfl rfl ?_ | refine Ops.min rfl rfl rfl rfl rfl ?_ | refine Ops.eqB rfl rfl rfl rfl rfl rfl ?_ | refine Ops.neB rfl rfl rfl rfl rfl rfl ?_ | (apply Ops.ldB rfl rfl rfl rfl rfl; assumption; rfl)))
      refine W.still' rfl (by kernel_rfl) (fun w4 k4 _ => ?_)
      have hb4 := Below.at_ hb3 k4 (fun _ e => e.elim)
      (repeat (first | with_reducible refine W.seq ?_ | with_reducible refine Ops.nil ?_ | with_reducible refine W.region ?_ | refine Ops.pu rfl rfl rfl ?_ | refine Ops.ar rfl rfl rfl (by omega) ?_ | refine Ops.yes rfl rfl rfl ?_ | refine Ops.no rfl rfl rfl rfl rfl ?_ | refine Ops.nu rfl rfl rfl rfl ?_ | with_reducible refine W.skip ?_ | with_reducible refine W.endb ?_ | with_reducible refine W.block ?_ | refine W.exit rfl ?_ | refine Ops.len rfl rfl rfl rfl rfl ?_ | refine Ops.flp rfl rfl rfl rfl rfl ?_ | refine Ops.max rfl rfl rfl rfl rfl ?_ | refine Ops.min rfl rfl rfl rfl rfl ?_ | refine Ops.eqB rfl rfl rfl rfl rfl rfl ?_ | refine Ops.neB rfl rfl rfl rfl rfl rfl ?_ | (apply Ops.ldB rfl rfl rfl rfl rfl; assumption; rfl)))
      refine Ops.rdS (enc := Value.int .i64) (z := (0 : Int)) rfl rfl rfl rfl rfl rfl rfl rfl rfl rfl rfl (Sl.below h1 hb4) (by omega) (by omega) (fun p => ?_)
      (repeat (first | with_reducible refine W.seq ?_ | with_reducible refine Ops.nil ?_ | with_reducible refine W.region ?_ | refine Ops.pu rfl rfl rfl ?_ | refine Ops.ar rfl rfl rfl (by omega) ?_ | refine Ops.yes rfl rfl rfl ?_ | refine Ops.no rfl rfl rfl rfl rfl ?_ | refine Ops.nu rfl rfl rfl rfl ?_ | with_reducible refine W.skip ?_ | with_reducible refine W.endb ?_ | with_reducible refine W.block ?_ | refine W.exit rfl ?_ | refine Ops.len rfl rfl rfl rfl rfl ?_ | refine Ops.flp rfl rfl rfl rfl rfl ?_ | refine Ops.max rfl rfl rfl rfl rfl ?_ | refine Ops.min rfl rfl rfl rfl rfl ?_ | refine Ops.eqB rfl rfl rfl rfl rfl rfl ?_ | refine Ops.neB rfl rfl rfl rfl rfl rfl ?_ | (apply Ops.ldB rfl rfl rfl rfl rfl; assumption; rfl)))
      refine Ops.rdS (enc := Value.int .i64) (z := (0 : Int)) rfl rfl rfl rfl rfl rfl rfl rfl rfl rfl rfl (Sl.below h2 hb4) (by omega) (by omega) (fun p => ?_)
      simp only [Int.toNat_natCast]
      (repeat (first | with_reducible refine W.seq ?_ | with_reducible refine Ops.nil ?_ | with_reducible refine W.region ?_ | refine Ops.pu rfl rfl rfl ?_ | refine Ops.ar rfl rfl rfl (by omega) ?_ | refine Ops.yes rfl rfl rfl ?_ | refine Ops.no rfl rfl rfl rfl rfl ?_ | refine Ops.nu rfl rfl rfl rfl ?_ | with_reducible refine W.skip ?_ | with_reducible refine W.endb ?_ | with_reducible refine W.block ?_ | refine W.exit rfl ?_ | refine Ops.len rfl rfl rfl rfl rfl ?_ | refine Ops.flp rfl rfl rfl rfl rfl ?_ | refine Ops.max rfl rfl rfl rfl rfl ?_ | refine Ops.min rfl rfl rfl rfl rfl ?_ | refine Ops.eqB rfl rfl rfl rfl rfl rfl ?_ | refine Ops.neB rfl rfl rfl rfl rfl rfl ?_ | (apply Ops.ldB rfl rfl rfl rfl rfl; assumption; rfl)))
      refine Ops.nilS rfl ?_
      (repeat (first | with_reducible refine W.seq ?_ | with_reducible refine Ops.nil ?_ | with_reducible refine W.region ?_ | refine Ops.pu rfl rfl rfl ?_ | refine Ops.ar rfl rfl rfl (by omega) ?_ | refine Ops.yes rfl rfl rfl ?_ | refine Ops.no rfl rfl rfl rfl rfl ?_ | refine Ops.nu rfl rfl rfl rfl ?_ | with_reducible refine W.skip ?_ | with_reducible refine W.endb ?_ | with_reducible refine W.block ?_ | refine W.exit rfl ?_ | refine Ops.len rfl rfl rfl rfl rfl ?_ | refine Ops.flp rfl rfl rfl rfl rfl ?_ | refine Ops.max rfl rfl rfl rfl rfl ?_ | refine Ops.min rfl rfl rfl rfl rfl ?_ | refine Ops.eqB rfl rfl rfl rfl rfl rfl ?_ | refine Ops.neB rfl rfl rfl rfl rfl rfl ?_ | (apply Ops.ldB rfl rfl rfl rfl rfl; assumption; rfl)))
      refine W.cond rfl (fun hc2 => ?_) (fun hc2 => ?_)
      · (repeat (first | with_reducible refine W.seq ?_ | with_reducible refine Ops.nil ?_ | with_reducible refine W.region ?_ | refine Ops.pu rfl rfl rfl ?_ | refine Ops.ar rfl rfl rfl (by omega) ?_ | refine Ops.yes rfl rfl rfl ?_ | refine Ops.no rfl rfl rfl rfl rfl ?_ | refine Ops.nu rfl rfl rfl rfl ?_ | with_reducible refine W.skip ?_ | with_reducible refine W.endb ?_ | with_reducible refine W.block ?_ | refine W.exit rfl ?_ | refine Ops.len rfl rfl rfl rfl rfl ?_ | refine Ops.flp rfl rfl rfl rfl rfl ?_ | refine Ops.max rfl rfl rfl rfl rfl ?_ | refine Ops.min rfl rfl rfl rfl rfl ?_ | refine Ops.eqB rfl rfl rfl rfl rfl rfl ?_ | refine Ops.neB rfl rfl rfl rfl rfl rfl ?_ | (apply Ops.ldB rfl rfl rfl rfl rfl; assumption; rfl)))
        refine W.fret rfl ⟨?_, hb4⟩
        have hne : xs ≠ ys := by intro e; subst e; simp at hc2
        simp [hne, resV]
      · (repeat (first | with_reducible refine W.seq ?_ | with_reducible refine Ops.nil ?_ | with_reducible refine W.region ?_ | refine Ops.pu rfl rfl rfl ?_ | refine Ops.ar rfl rfl rfl (by omega) ?_ | refine Ops.yes rfl rfl rfl ?_ | refine Ops.no rfl rfl rfl rfl rfl ?_ | refine Ops.nu rfl rfl rfl rfl ?_ | with_reducible refine W.skip ?_ | with_reducible refine W.endb ?_ | with_reducible refine W.block ?_ | refine W.exit rfl ?_ | refine Ops.len rfl rfl rfl rfl rfl ?_ | refine Ops.flp rfl rfl rfl rfl rfl ?_ | refine Ops.max rfl rfl rfl rfl rfl ?_ | refine Ops.min rfl rfl rfl rfl rfl ?_ | refine Ops.eqB rfl rfl rfl rfl rfl rfl ?_ | refine Ops.neB rfl rfl rfl rfl rfl rfl ?_ | (apply Ops.ldB rfl rfl rfl rfl rfl; assumption; rfl)))
        refine W.endl ⟨_, _, ⟨⟨j + 1, rfl, by omega, rfl, hb4, fun k hk => ?_⟩, by omega⟩, (by repeat (first | exact trivial | refine And.intro rfl ?_))⟩
        by_cases e : k = j
        · rw [e]; simpa using hc2
        · exact hok k (by omega)
    · have hlt : j = xs.length := by simp at hc; omega
      subst hlt
      (repeat (first | with_reducible refine W.seq ?_ | with_reducible refine Ops.nil ?_ | with_reducible refine W.region ?_ | refine Ops.pu rfl rfl rfl ?_ | refine Ops.ar rfl rfl rfl (by omega) ?_ | refine Ops.yes rfl rfl rfl ?_ | refine Ops.no rfl rfl rfl rfl rfl ?_ | refine Ops.nu rfl rfl rfl rfl ?_ | with_reducible refine W.skip ?_ | with_reducible refine W.endb ?_ | with_reducible refine W.block ?_ | refine W.exit rfl ?_ | refine Ops.len rfl rfl rfl rfl rfl ?_ | refine Ops.flp rfl rfl rfl rfl rfl ?_ | refine Ops.max rfl rfl rfl rfl rfl ?_ | refine Ops.min rfl rfl rfl rfl rfl ?_ | refine Ops.eqB rfl rfl rfl rfl rfl rfl ?_ | refine Ops.neB rfl rfl rfl rfl rfl rfl ?_ | (apply Ops.ldB rfl rfl rfl rfl rfl; assumption; rfl)))
      refine W.fret rfl ⟨?_, hb3⟩
      have he : xs = ys := by
        apply List.ext_getElem hll
        intro i i1 i2
        have := hok i i1
        simpa [List.getD_eq_getElem?_getD, i1, i2] using this
      simp [he, resV]
theorem own2 {w : World} {r : Nat} {a b : Int} (h : Blk w r #[.int .i64 a, .int .i64 b] 3) : SlI w (.slice (some ⟨r, 0, none⟩) 2 2) [a, b] := by
  refine ⟨by simp, _, 2, rfl, fun _ => ⟨_, rfl, fun j hj => ?_⟩⟩
  rw [add_lit, Nat.zero_add]
  rcases j with _ | _ | j
  · exact h.cell rfl
  · exact h.cell rfl
  · simp at hj; omega
theorem sl3 {w : World} {r : Nat} {a b c : Int} (h : Blk w r #[.int .i64 a, .int .i64 b, .int .i64 c] 3) : SlI w (.slice (some ⟨r, 0, none⟩) 3 3) [a, b, c] := by
  refine ⟨by simp, _, 3, rfl, fun _ => ⟨_, rfl, fun j hj => ?_⟩⟩
  rw [add_lit, Nat.zero_add]
  rcases j with _ | _ | _ | j
  · exact h.cell rfl
  · exact h.cell rfl
  · exact h.cell rfl
  · simp at hj; omega
theorem sample_c (w : World) : Calls Try.prog 62 #[] w (Ret fun r w' => TreeM w' r smp ∧ Below w.heap.size w w') := by
  refine calls_W (vs := []) Try.func62 rfl (by kernel_rfl) rfl ?_
  (repeat (first | with_reducible refine W.seq ?_ | with_reducible refine Ops.nil ?_ | with_reducible refine W.region ?_ | refine Ops.pu rfl rfl rfl ?_ | refine Ops.ar rfl rfl rfl (by omega) ?_ | refine Ops.yes rfl rfl rfl ?_ | refine Ops.no rfl rfl rfl rfl rfl ?_ | refine Ops.nu rfl rfl rfl rfl ?_ | with_reducible refine W.skip ?_ | with_reducible refine W.endb ?_ | with_reducible refine W.block ?_ | refine W.exit rfl ?_ | refine Ops.len rfl rfl rfl rfl rfl ?_ | refine Ops.flp rfl rfl rfl rfl rfl ?_ | refine Ops.max rfl rfl rfl rfl rfl ?_ | refine Ops.min rfl rfl rfl rfl rfl ?_ | refine Ops.eqB rfl rfl rfl rfl rfl rfl ?_ | refine Ops.neB rfl rfl rfl rfl rfl rfl ?_ | (apply Ops.ldB rfl rfl rfl rfl rfl; assumption; rfl)))
  refine Ops.bs2 rfl rfl rfl rfl rfl rfl rfl rfl rfl rfl rfl (fun w1 r1 hM1 => ?_)
  refine Ops.bldG (cs := #[.slice (some ⟨r1, 0, none⟩) 2 2, .int .i64 0]) rfl rfl rfl rfl rfl rfl (by kernel_rfl) ?_
  refine Ops.bs2 rfl rfl rfl rfl rfl rfl rfl rfl rfl rfl rfl (fun w2 r2 hM2 => ?_)
  refine Ops.bldG (cs := #[.slice (some ⟨r2, 0, none⟩) 2 2, .int .i64 0]) rfl rfl rfl rfl rfl rfl (by kernel_rfl) ?_
  refine Ops.bs2 rfl rfl rfl rfl rfl rfl rfl rfl rfl rfl rfl (fun w3 r3 hM3 => ?_)
  refine Ops.bldG (cs := #[.slice (some ⟨r3, 0, none⟩) 2 2, .int .i64 0]) rfl rfl rfl rfl rfl rfl (by kernel_rfl) ?_
  refine Ops.bldG (cs := #[.slice none 0 0, .int .i64 3]) rfl rfl rfl rfl rfl rfl (by kernel_rfl) ?_
  refine Ops.bldG (cs := #[.slice none 0 0, .int .i64 5]) rfl rfl rfl rfl rfl rfl (by kernel_rfl) ?_
  refine Ops.bldG (cs := #[.slice none 0 0, .int .i64 2]) rfl rfl rfl rfl rfl rfl (by kernel_rfl) ?_
  refine Ops.bldG (cs := #[.slice none 0 0, .int .i64 9]) rfl rfl rfl rfl rfl rfl (by kernel_rfl) ?_
  refine Ops.bsG (cs := #[.slice (some ⟨r1, 0, none⟩) 2 2, .int .i64 0, .slice (some ⟨r2, 0, none⟩) 2 2, .int .i64 0, .slice (some ⟨r3, 0, none⟩) 2 2, .int .i64 0, .slice none 0 0, .int .i64 3, .slice none 0 0, .int .i64 5, .slice none 0 0, .int .i64 2, .slice none 0 0, .int .i64 9]) rfl rfl rfl rfl rfl rfl rfl rfl rfl (by kernel_rfl) (fun w4 r4 hM4 => ?_)
  (repeat (first | with_reducible refine W.seq ?_ | with_reducible refine Ops.nil ?_ | with_reducible refine W.region ?_ | refine Ops.pu rfl rfl rfl ?_ | refine Ops.ar rfl rfl rfl (by omega) ?_ | refine Ops.yes rfl rfl rfl ?_ | refine Ops.no rfl rfl rfl rfl rfl ?_ | refine Ops.nu rfl rfl rfl rfl ?_ | with_reducible refine W.skip ?_ | with_reducible refine W.endb ?_ | with_reducible refine W.block ?_ | refine W.exit rfl ?_ | refine Ops.len rfl rfl rfl rfl rfl ?_ | refine Ops.flp rfl rfl rfl rfl rfl ?_ | refine Ops.max rfl rfl rfl rfl rfl ?_ | refine Ops.min rfl rfl rfl rfl rfl ?_ | refine Ops.eqB rfl rfl rfl rfl rfl rfl ?_ | refine Ops.neB rfl rfl rfl rfl rfl rfl ?_ | (apply Ops.ldB rfl rfl rfl rfl rfl; assumption; rfl)))
  have k14 := (hM2.kp.trans hM3.kp).trans hM4.kp
  have k24 := hM3.kp.trans hM4.kp
  have h1 := own2 (Blk.kp hM1.at_ k14 (by rintro ((h | h) | h) <;> exact h))
  have h2 := own2 (Blk.kp hM2.at_ k24 (by rintro (h | h) <;> exact h))
  have h3 := own2 (Blk.kp hM3.at_ hM4.kp (fun h => h))
  have h4 : Blk w4 r4 #[.slice (some ⟨r1, 0, none⟩) 2 2, .int .i64 0, .slice (some ⟨r2, 0, none⟩) 2 2, .int .i64 0, .slice (some ⟨r3, 0, none⟩) 2 2, .int .i64 0, .slice none 0 0, .int .i64 3, .slice none 0 0, .int .i64 5, .slice none 0 0, .int .i64 2, .slice none 0 0, .int .i64 9] 47 := hM4.at_
  refine W.fret rfl ⟨⟨some ⟨r4, 0, none⟩, 7, [.slice (some ⟨r1, 0, none⟩) 2 2, .slice (some ⟨r2, 0, none⟩) 2 2, .slice (some ⟨r3, 0, none⟩) 2 2, .slice none 0 0, .slice none 0 0, .slice none 0 0, .slice none 0 0], rfl, fun _ => ⟨_, rfl, fun j hj => ?_⟩, fun j hj => ?_⟩, ((((hM1.kp.trans hM2.kp).trans hM3.kp).trans hM4.kp)).below (Nat.le_refl _) (by rintro i _ (((h | h) | h) | h) <;> exact h)⟩
  · rw [add_lit, add_lit, Nat.zero_add]
    rcases j with _ | _ | _ | _ | _ | _ | _ | j
    · exact ⟨h4.cell rfl, h4.cell rfl⟩
    · exact ⟨h4.cell rfl, h4.cell rfl⟩
    · exact ⟨h4.cell rfl, h4.cell rfl⟩
    · exact ⟨h4.cell rfl, h4.cell rfl⟩
    · exact ⟨h4.cell rfl, h4.cell rfl⟩
    · exact ⟨h4.cell rfl, h4.cell rfl⟩
    · exact ⟨h4.cell rfl, h4.cell rfl⟩
    · simp at hj; omega
  · rcases j with _ | _ | _ | _ | _ | _ | _ | j
    · exact h1
    · exact h2
    · exact h3
    · exact Sl.nil _ _ _ _ _
    · exact Sl.nil _ _ _ _ _
    · exact Sl.nil _ _ _ _ _
    · exact Sl.nil _ _ _ _ _
    · simp at hj; omega
theorem awake_c (w : World) : Calls Try.prog 22 #[] w (Ret fun r w' => r = .bool true ∧ Below w.heap.size w w') := by
  refine calls_W (vs := []) Try.func22 rfl (by kernel_rfl) rfl ?_
  have hl : smp.length ≤ 9223372036854775807 := by decide
  (repeat (first | with_reducible refine W.seq ?_ | with_reducible refine Ops.nil ?_ | with_reducible refine W.region ?_ | refine Ops.pu rfl rfl rfl ?_ | refine Ops.ar rfl rfl rfl (by omega) ?_ | refine Ops.yes rfl rfl rfl ?_ | refine Ops.no rfl rfl rfl rfl rfl ?_ | refine Ops.nu rfl rfl rfl rfl ?_ | with_reducible refine W.skip ?_ | with_reducible refine W.endb ?_ | with_reducible refine W.block ?_ | refine W.exit rfl ?_ | refine Ops.len rfl rfl rfl rfl rfl ?_ | refine Ops.flp rfl rfl rfl rfl rfl ?_ | refine Ops.max rfl rfl rfl rfl rfl ?_ | refine Ops.min rfl rfl rfl rfl rfl ?_ | refine Ops.eqB rfl rfl rfl rfl rfl rfl ?_ | refine Ops.neB rfl rfl rfl rfl rfl rfl ?_ | (apply Ops.ldB rfl rfl rfl rfl rfl; assumption; rfl)))
  refine Ops.call rfl rfl rfl rfl rfl (sample_c w) (fun v1 w1 hR => ?_)
  obtain ⟨hT1, hb1⟩ := hR
  refine Ops.call rfl rfl rfl rfl rfl (value_c hT1 hl) (fun r w2 hR => ?_)
  obtain ⟨hb12, hR⟩ := hR
  rw [smp_game] at hR
  obtain ⟨vs, hvs, rfl⟩ := hR
  rw [smp_val hvs]
  have hb2 := hb1.trans (hb12.mono hb1.size)
  clear hvs hT1
  (repeat (first | with_reducible refine W.seq ?_ | with_reducible refine Ops.nil ?_ | with_reducible refine W.region ?_ | refine Ops.pu rfl rfl rfl ?_ | refine Ops.ar rfl rfl rfl (by omega) ?_ | refine Ops.yes rfl rfl rfl ?_ | refine Ops.no rfl rfl rfl rfl rfl ?_ | refine Ops.nu rfl rfl rfl rfl ?_ | with_reducible refine W.skip ?_ | with_reducible refine W.endb ?_ | with_reducible refine W.block ?_ | refine W.exit rfl ?_ | refine Ops.len rfl rfl rfl rfl rfl ?_ | refine Ops.flp rfl rfl rfl rfl rfl ?_ | refine Ops.max rfl rfl rfl rfl rfl ?_ | refine Ops.min rfl rfl rfl rfl rfl ?_ | refine Ops.eqB rfl rfl rfl rfl rfl rfl ?_ | refine Ops.neB rfl rfl rfl rfl rfl rfl ?_ | (apply Ops.ldB rfl rfl rfl rfl rfl; assumption; rfl)))
  refine Ops.call rfl rfl rfl rfl rfl (sample_c w2) (fun v3 w3 hR => ?_)
  obtain ⟨hT3, hb23⟩ := hR
  have hb3 := hb2.trans (hb23.mono hb2.size)
  refine Ops.call rfl rfl rfl rfl rfl (search_c hT3 hl) (fun r w4 hR => ?_)
  obtain ⟨hb34, hR⟩ := hR
  have hb4 := hb3.trans (hb34.mono hb3.size)
  simp only [SearchR, smp_game, Option.elim, smp_srch] at hR
  obtain ⟨lv, rfl, hI4⟩ := hR
  clear hT3
  (repeat (first | with_reducible refine W.seq ?_ | with_reducible refine Ops.nil ?_ | with_reducible refine W.region ?_ | refine Ops.pu rfl rfl rfl ?_ | refine Ops.ar rfl rfl rfl (by omega) ?_ | refine Ops.yes rfl rfl rfl ?_ | refine Ops.no rfl rfl rfl rfl rfl ?_ | refine Ops.nu rfl rfl rfl rfl ?_ | with_reducible refine W.skip ?_ | with_reducible refine W.endb ?_ | with_reducible refine W.block ?_ | refine W.exit rfl ?_ | refine Ops.len rfl rfl rfl rfl rfl ?_ | refine Ops.flp rfl rfl rfl rfl rfl ?_ | refine Ops.max rfl rfl rfl rfl rfl ?_ | refine Ops.min rfl rfl rfl rfl rfl ?_ | refine Ops.eqB rfl rfl rfl rfl rfl rfl ?_ | refine Ops.neB rfl rfl rfl rfl rfl rfl ?_ | (apply Ops.ldB rfl rfl rfl rfl rfl; assumption; rfl)))
  refine Ops.call rfl rfl rfl rfl rfl (sample_c w4) (fun v5 w5 hR => ?_)
  obtain ⟨hT5, hb45⟩ := hR
  have hb5 := hb4.trans (hb45.mono hb4.size)
  refine Ops.call rfl rfl rfl rfl rfl (proof_c hT5 hl) (fun r w6 hR => ?_)
  obtain ⟨hb56, hR⟩ := hR
  have hb6 := hb5.trans (hb56.mono hb5.size)
  simp only [ProvedR, smp_game] at hR
  rw [if_pos (by decide)] at hR
  simp only [Option.elim] at hR
  obtain ⟨es, hes, _, hR⟩ := hR
  rw [smp_proof hes] at hR
  rcases hR with ⟨h, _⟩ | ⟨_, pv, rfl, hI6⟩
  · exact absurd h (by decide)
  clear hT5 hes
  (repeat (first | with_reducible refine W.seq ?_ | with_reducible refine Ops.nil ?_ | with_reducible refine W.region ?_ | refine Ops.pu rfl rfl rfl ?_ | refine Ops.ar rfl rfl rfl (by omega) ?_ | refine Ops.yes rfl rfl rfl ?_ | refine Ops.no rfl rfl rfl rfl rfl ?_ | refine Ops.nu rfl rfl rfl rfl ?_ | with_reducible refine W.skip ?_ | with_reducible refine W.endb ?_ | with_reducible refine W.block ?_ | refine W.exit rfl ?_ | refine Ops.len rfl rfl rfl rfl rfl ?_ | refine Ops.flp rfl rfl rfl rfl rfl ?_ | refine Ops.max rfl rfl rfl rfl rfl ?_ | refine Ops.min rfl rfl rfl rfl rfl ?_ | refine Ops.eqB rfl rfl rfl rfl rfl rfl ?_ | refine Ops.neB rfl rfl rfl rfl rfl rfl ?_ | (apply Ops.ldB rfl rfl rfl rfl rfl; assumption; rfl)))
  refine Ops.call rfl rfl rfl rfl rfl (sample_c w6) (fun v7 w7 hR => ?_)
  obtain ⟨hT7, hb67⟩ := hR
  have hb7 := hb6.trans (hb67.mono hb6.size)
  refine Ops.call rfl rfl rfl rfl rfl (numbers_c hT7 hl (Sl.nil (Value.int .i64) (0 : Int) w7 none 0)) (fun r w8 hR => ?_)
  obtain ⟨hb78, hR⟩ := hR
  have hb8 := hb7.trans (hb78.mono hb7.size)
  simp only [NumbersR, smp_game] at hR
  rw [if_pos (by decide)] at hR
  simp only [Option.elim] at hR
  obtain ⟨y, z, hy, hz, rfl⟩ := hR
  rw [smp_num hy, smp_num hz]
  have hI48 := Sl.below hI4.sl (hb45.trans ((hb56.trans ((hb67.trans (hb78.mono hb67.size)).mono hb56.size)).mono hb45.size))
  have hI68 := Sl.below hI6.sl (hb67.trans (hb78.mono hb67.size))
  clear hT7 hy hz
  (repeat (first | with_reducible refine W.seq ?_ | with_reducible refine Ops.nil ?_ | with_reducible refine W.region ?_ | refine Ops.pu rfl rfl rfl ?_ | refine Ops.ar rfl rfl rfl (by omega) ?_ | refine Ops.yes rfl rfl rfl ?_ | refine Ops.no rfl rfl rfl rfl rfl ?_ | refine Ops.nu rfl rfl rfl rfl ?_ | with_reducible refine W.skip ?_ | with_reducible refine W.endb ?_ | with_reducible refine W.block ?_ | refine W.exit rfl ?_ | refine Ops.len rfl rfl rfl rfl rfl ?_ | refine Ops.flp rfl rfl rfl rfl rfl ?_ | refine Ops.max rfl rfl rfl rfl rfl ?_ | refine Ops.min rfl rfl rfl rfl rfl ?_ | refine Ops.eqB rfl rfl rfl rfl rfl rfl ?_ | refine Ops.neB rfl rfl rfl rfl rfl rfl ?_ | (apply Ops.ldB rfl rfl rfl rfl rfl; assumption; rfl)))
  refine Ops.bsG (cs := #[.int .i64 3, .int .i64 4, .int .i64 5]) rfl rfl rfl rfl rfl rfl rfl rfl rfl (by kernel_rfl) (fun w9 r9 hM9 => ?_)
  have hb9 : Below w.heap.size w w9 := Below.at_ hb8 hM9.kp (fun _ e => e.elim)
  have h9 : SlI w9 (.slice (some ⟨r9, 0, none⟩) 3 3) [3, 4, 5] := sl3 hM9.at_
  have hI49 := hI48.kp hM9.kp (fun _ _ e => e)
  have hI69 := hI68.kp hM9.kp (fun _ _ e => e)
  (repeat (first | with_reducible refine W.seq ?_ | with_reducible refine Ops.nil ?_ | with_reducible refine W.region ?_ | refine Ops.pu rfl rfl rfl ?_ | refine Ops.ar rfl rfl rfl (by omega) ?_ | refine Ops.yes rfl rfl rfl ?_ | refine Ops.no rfl rfl rfl rfl rfl ?_ | refine Ops.nu rfl rfl rfl rfl ?_ | with_reducible refine W.skip ?_ | with_reducible refine W.endb ?_ | with_reducible refine W.block ?_ | refine W.exit rfl ?_ | refine Ops.len rfl rfl rfl rfl rfl ?_ | refine Ops.flp rfl rfl rfl rfl rfl ?_ | refine Ops.max rfl rfl rfl rfl rfl ?_ | refine Ops.min rfl rfl rfl rfl rfl ?_ | refine Ops.eqB rfl rfl rfl rfl rfl rfl ?_ | refine Ops.neB rfl rfl rfl rfl rfl rfl ?_ | (apply Ops.ldB rfl rfl rfl rfl rfl; assumption; rfl)))
  refine Ops.call rfl rfl rfl rfl rfl (ints_c hI49 h9) (fun r w10 hR => ?_)
  obtain ⟨rfl, hb910⟩ := hR
  rw [decide_eq_true (rfl : ([3, 4, 5] : List Int) = [3, 4, 5])]
  have hb10 := hb9.trans (hb910.mono hb9.size)
  (repeat (first | with_reducible refine W.seq ?_ | with_reducible refine Ops.nil ?_ | with_reducible refine W.region ?_ | refine Ops.pu rfl rfl rfl ?_ | refine Ops.ar rfl rfl rfl (by omega) ?_ | refine Ops.yes rfl rfl rfl ?_ | refine Ops.no rfl rfl rfl rfl rfl ?_ | refine Ops.nu rfl rfl rfl rfl ?_ | with_reducible refine W.skip ?_ | with_reducible refine W.endb ?_ | with_reducible refine W.block ?_ | refine W.exit rfl ?_ | refine Ops.len rfl rfl rfl rfl rfl ?_ | refine Ops.flp rfl rfl rfl rfl rfl ?_ | refine Ops.max rfl rfl rfl rfl rfl ?_ | refine Ops.min rfl rfl rfl rfl rfl ?_ | refine Ops.eqB rfl rfl rfl rfl rfl rfl ?_ | refine Ops.neB rfl rfl rfl rfl rfl rfl ?_ | (apply Ops.ldB rfl rfl rfl rfl rfl; assumption; rfl)))
  refine Ops.bs2 rfl rfl rfl rfl rfl rfl rfl rfl rfl rfl rfl (fun w11 r11 hM11 => ?_)
  have hb11 : Below w.heap.size w w11 := Below.at_ hb10 hM11.kp (fun _ e => e.elim)
  have h11 : SlI w11 (.slice (some ⟨r11, 0, none⟩) 2 2) [3, 4] := own2 hM11.at_
  have hI611 := (Sl.below hI69 hb910).kp hM11.kp (fun _ _ e => e)
  (repeat (first | with_reducible refine W.seq ?_ | with_reducible refine Ops.nil ?_ | with_reducible refine W.region ?_ | refine Ops.pu rfl rfl rfl ?_ | refine Ops.ar rfl rfl rfl (by omega) ?_ | refine Ops.yes rfl rfl rfl ?_ | refine Ops.no rfl rfl rfl rfl rfl ?_ | refine Ops.nu rfl rfl rfl rfl ?_ | with_reducible refine W.skip ?_ | with_reducible refine W.endb ?_ | with_reducible refine W.block ?_ | refine W.exit rfl ?_ | refine Ops.len rfl rfl rfl rfl rfl ?_ | refine Ops.flp rfl rfl rfl rfl rfl ?_ | refine Ops.max rfl rfl rfl rfl rfl ?_ | refine Ops.min rfl rfl rfl rfl rfl ?_ | refine Ops.eqB rfl rfl rfl rfl rfl rfl ?_ | refine Ops.neB rfl rfl rfl rfl rfl rfl ?_ | (apply Ops.ldB rfl rfl rfl rfl rfl; assumption; rfl)))
  refine Ops.call rfl rfl rfl rfl rfl (ints_c hI611 h11) (fun r w12 hR => ?_)
  obtain ⟨rfl, hb1112⟩ := hR
  have he : ((2, [3, 4]) : Ef).2.mergeSort (fun x y => decide (x ≤ y)) = [3, 4] := List.mergeSort_of_pairwise (by simp)
  rw [decide_eq_true he]
  have hb12' := hb11.trans (hb1112.mono hb11.size)
  (repeat (first | with_reducible refine W.seq ?_ | with_reducible refine Ops.nil ?_ | with_reducible refine W.region ?_ | refine Ops.pu rfl rfl rfl ?_ | refine Ops.ar rfl rfl rfl (by omega) ?_ | refine Ops.yes rfl rfl rfl ?_ | refine Ops.no rfl rfl rfl rfl rfl ?_ | refine Ops.nu rfl rfl rfl rfl ?_ | with_reducible refine W.skip ?_ | with_reducible refine W.endb ?_ | with_reducible refine W.block ?_ | refine W.exit rfl ?_ | refine Ops.len rfl rfl rfl rfl rfl ?_ | refine Ops.flp rfl rfl rfl rfl rfl ?_ | refine Ops.max rfl rfl rfl rfl rfl ?_ | refine Ops.min rfl rfl rfl rfl rfl ?_ | refine Ops.eqB rfl rfl rfl rfl rfl rfl ?_ | refine Ops.neB rfl rfl rfl rfl rfl rfl ?_ | (apply Ops.ldB rfl rfl rfl rfl rfl; assumption; rfl)))
  refine W.cond rfl (fun hc => ?_) (fun hc => ?_)
  · simp at hc
  (repeat (first | with_reducible refine W.seq ?_ | with_reducible refine Ops.nil ?_ | with_reducible refine W.region ?_ | refine Ops.pu rfl rfl rfl ?_ | refine Ops.ar rfl rfl rfl (by omega) ?_ | refine Ops.yes rfl rfl rfl ?_ | refine Ops.no rfl rfl rfl rfl rfl ?_ | refine Ops.nu rfl rfl rfl rfl ?_ | with_reducible refine W.skip ?_ | with_reducible refine W.endb ?_ | with_reducible refine W.block ?_ | refine W.exit rfl ?_ | refine Ops.len rfl rfl rfl rfl rfl ?_ | refine Ops.flp rfl rfl rfl rfl rfl ?_ | refine Ops.max rfl rfl rfl rfl rfl ?_ | refine Ops.min rfl rfl rfl rfl rfl ?_ | refine Ops.eqB rfl rfl rfl rfl rfl rfl ?_ | refine Ops.neB rfl rfl rfl rfl rfl rfl ?_ | (apply Ops.ldB rfl rfl rfl rfl rfl; assumption; rfl)))
  refine W.cond rfl (fun hc => ?_) (fun hc => ?_)
  · simp at hc
  (repeat (first | with_reducible refine W.seq ?_ | with_reducible refine Ops.nil ?_ | with_reducible refine W.region ?_ | refine Ops.pu rfl rfl rfl ?_ | refine Ops.ar rfl rfl rfl (by omega) ?_ | refine Ops.yes rfl rfl rfl ?_ | refine Ops.no rfl rfl rfl rfl rfl ?_ | refine Ops.nu rfl rfl rfl rfl ?_ | with_reducible refine W.skip ?_ | with_reducible refine W.endb ?_ | with_reducible refine W.block ?_ | refine W.exit rfl ?_ | refine Ops.len rfl rfl rfl rfl rfl ?_ | refine Ops.flp rfl rfl rfl rfl rfl ?_ | refine Ops.max rfl rfl rfl rfl rfl ?_ | refine Ops.min rfl rfl rfl rfl rfl ?_ | refine Ops.eqB rfl rfl rfl rfl rfl rfl ?_ | refine Ops.neB rfl rfl rfl rfl rfl rfl ?_ | (apply Ops.ldB rfl rfl rfl rfl rfl; assumption; rfl)))
  exact W.fret rfl ⟨rfl, hb12'⟩
end Go.Proofs.Ytdiljpnfochndaa
