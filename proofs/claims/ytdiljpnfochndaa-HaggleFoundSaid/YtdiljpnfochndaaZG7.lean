/- A part of the walk: what this seat's statements share. -/
import Derived.Test.YtdiljpnfochndaaZG3
import Derived.Test.YtdiljpnfochndaaZG6
import Derived.Test.YtdiljpnfochndaaZG2
set_option linter.unusedVariables false
set_option linter.unusedSimpArgs false
set_option linter.unusedSectionVars false
namespace Go.Proofs.Ytdiljpnfochndaa
open Go Go.RowKit Go.Proofs.Ytdiljpnfochndaa.VW
open Go.Proofs.Ytdiljpnfochndaa.HP (Nd kid wor leafB rd evB TF far Ef GoodE gameOf gameOf_TF kidsS srS srS_good kids_good ValP NV NeedP NE)
attribute [local irreducible] W Ops
abbrev smp : List Nd := [([1, 2], 0), ([3, 4], 0), ([5, 6], 0), ([], 3), ([], 5), ([], 2), ([], 9)]
abbrev sdep : List Int := [0, 1, 1, 2, 2, 2, 2]
theorem smp_game : gameOf smp = some sdep := by decide
theorem smp_val {vs : List Int} (h : ValP smp sdep (wor smp) vs) : vs.getD 0 0 = 3 := by
  have h2 : ValP smp sdep (wor smp) [3, 3, 2, 3, 5, 2, 9] := ⟨rfl, by decide⟩
  rw [ValP.uniq (gameOf_TF smp_game) h h2]
  rfl
theorem smp_srch : srS smp sdep smp.length 0 (-far) far = (3, [3, 4, 5]) := by decide
theorem smp_proof {es : List Ef} (h : NeedP smp sdep true (proofF smp 3) es) : es.getD 0 (0, []) = (2, [3, 4]) := by
  have h2 : NeedP smp sdep true (proofF smp 3) [(2, [3, 4]), (2, [3, 4]), (far, [5, 6]), (1, [3]), (1, [4]), (far, [5]), (1, [6])] := ⟨rfl, by decide⟩
  rw [NeedP.uniq (gameOf_TF smp_game) h h2]
  rfl
theorem smp_num {z : Int} {mx : Bool} (h : NumR smp sdep [] 4 mx z) : z = 2 := by
  obtain ⟨es, h, rfl⟩ := h
  cases mx with
  | true =>
    have h2 : NeedP smp sdep true (numF smp [] 4 true) [(2, [3, 4]), (2, [3, 4]), (2, [5, 6]), (1, [3]), (1, [4]), (1, [5]), (1, [6])] := ⟨rfl, by decide⟩
    rw [NeedP.uniq (gameOf_TF smp_game) h h2]
    decide
  | false =>
    have h2 : NeedP smp sdep false (numF smp [] 4 false) [(2, [3, 5]), (1, [3]), (1, [5]), (1, [3]), (1, [4]), (1, [5]), (1, [6])] := ⟨rfl, by decide⟩
    rw [NeedP.uniq (gameOf_TF smp_game) h h2]
    decide
theorem ints_c {w : World} {v1 v2 : Value} {xs ys : List Int} (h1 : SlI w v1 xs) (h2 : SlI w v2 ys) :
    Calls Try.prog 41 #[v1, v2] w (Ret fun r w' => r = .bool (decide (xs = ys)) ∧ Below w.heap.size w w') := by
  have hl1 := Sl.len h1
  have hl2 := Sl.len h2
  obtain ⟨A1, c1, rfl⟩ := Sl.sl h1
  obtain ⟨A2, c2, rfl⟩ := Sl.sl h2
  refine calls_W (vs := [_, _]) Try.func41 rfl (by kernel_rfl) rfl ?_
  (repeat (first | with_reducible refine W.seq ?_ | with_reducible refine Ops.nil ?_ | with_reducible refine W.region ?_ | refine z_p (kk := ?_) | refine z_a (kk := ?_) | refine z_y (kk := ?_) | refine z_n (kk := ?_) | refine z_u (kk := ?_) | with_reducible refine W.skip ?_ | with_reducible refine W.endb ?_ | with_reducible refine W.block ?_ | refine W.exit rfl ?_ | refine z_l (kk := ?_) | refine z_f (kk := ?_) | refine z_M (kk := ?_) | refine z_m (kk := ?_) | refine z_e (kk := ?_) | refine z_E (kk := ?_) | refine z_d (kk := ?_)))
  refine W.cond rfl (fun hc => ?_) (fun hc => ?_)
  · (repeat (first | with_reducible refine W.seq ?_ | with_reducible refine Ops.nil ?_ | with_reducible refine W.region ?_ | refine z_p (kk := ?_) | refine z_a (kk := ?_) | refine z_y (kk := ?_) | refine z_n (kk := ?_) | refine z_u (kk := ?_) | with_reducible refine W.skip ?_ | with_reducible refine W.endb ?_ | with_reducible refine W.block ?_ | refine W.exit rfl ?_ | refine z_l (kk := ?_) | refine z_f (kk := ?_) | refine z_M (kk := ?_) | refine z_m (kk := ?_) | refine z_e (kk := ?_) | refine z_E (kk := ?_) | refine z_d (kk := ?_)))
    refine W.fret rfl ⟨?_, Below.refl _ _⟩
    have hne : xs ≠ ys := by intro e; subst e; simp at hc
    simp [hne, resV]
  · have hll : xs.length = ys.length := by simp at hc; omega
    (repeat (first | with_reducible refine W.seq ?_ | with_reducible refine Ops.nil ?_ | with_reducible refine W.region ?_ | refine z_p (kk := ?_) | refine z_a (kk := ?_) | refine z_y (kk := ?_) | refine z_n (kk := ?_) | refine z_u (kk := ?_) | with_reducible refine W.skip ?_ | with_reducible refine W.endb ?_ | with_reducible refine W.block ?_ | refine W.exit rfl ?_ | refine z_l (kk := ?_) | refine z_f (kk := ?_) | refine z_M (kk := ?_) | refine z_m (kk := ?_) | refine z_e (kk := ?_) | refine z_E (kk := ?_) | refine z_d (kk := ?_)))
    refine W.loop (fun m ρ w3 => ∃ j : Nat, m = xs.length - j ∧ j ≤ xs.length ∧ ρ = [(0, .slice A1 xs.length c1), (1, .slice A2 ys.length c2), (5, .int .i64 j)] ∧ Below w.heap.size w w3 ∧ ∀ k, k < j → xs.getD k 0 = ys.getD k 0)
      ⟨_, _, ⟨0, rfl, Nat.zero_le _, rfl, Below.refl _ _, fun k hk => by omega⟩, (by repeat (first | exact trivial | refine And.intro rfl ?_))⟩ ?_
    rintro m ρ w3 ⟨j, rfl, hj, rfl, hb3, hok⟩
    (repeat (first | with_reducible refine W.seq ?_ | with_reducible refine Ops.nil ?_ | with_reducible refine W.region ?_ | refine z_p (kk := ?_) | refine z_a (kk := ?_) | refine z_y (kk := ?_) | refine z_n (kk := ?_) | refine z_u (kk := ?_) | with_reducible refine W.skip ?_ | with_reducible refine W.endb ?_ | with_reducible refine W.block ?_ | refine W.exit rfl ?_ | refine z_l (kk := ?_) | refine z_f (kk := ?_) | refine z_M (kk := ?_) | refine z_m (kk := ?_) | refine z_e (kk := ?_) | refine z_E (kk := ?_) | refine z_d (kk := ?_)))
    refine W.cond rfl (fun hc => ?_) (fun hc => ?_)
    · have hlt : j < xs.length := by simp at hc; omega
      (repeat (first | with_reducible refine W.seq ?_ | with_reducible refine Ops.nil ?_ | with_reducible refine W.region ?_ | refine z_p (kk := ?_) | refine z_a (kk := ?_) | refine z_y (kk := ?_) | refine z_n (kk := ?_) | refine z_u (kk := ?_) | with_reducible refine W.skip ?_ | with_reducible refine W.endb ?_ | with_reducible refine W.block ?_ | refine W.exit rfl ?_ | refine z_l (kk := ?_) | refine z_f (kk := ?_) | refine z_M (kk := ?_) | refine z_m (kk := ?_) | refine z_e (kk := ?_) | refine z_E (kk := ?_) | refine z_d (kk := ?_)))
      refine W.still' rfl (by kernel_rfl) (fun w4 k4 _ => ?_)
      have hb4 := Below.at_ hb3 k4 (fun _ e => e.elim)
      (repeat (first | with_reducible refine W.seq ?_ | with_reducible refine Ops.nil ?_ | with_reducible refine W.region ?_ | refine z_p (kk := ?_) | refine z_a (kk := ?_) | refine z_y (kk := ?_) | refine z_n (kk := ?_) | refine z_u (kk := ?_) | with_reducible refine W.skip ?_ | with_reducible refine W.endb ?_ | with_reducible refine W.block ?_ | refine W.exit rfl ?_ | refine z_l (kk := ?_) | refine z_f (kk := ?_) | refine z_M (kk := ?_) | refine z_m (kk := ?_) | refine z_e (kk := ?_) | refine z_E (kk := ?_) | refine z_d (kk := ?_)))
      refine Ops.rdS (enc := Value.int .i64) (z := (0 : Int)) rfl rfl rfl rfl rfl rfl rfl rfl rfl rfl rfl (Sl.below h1 hb4) (by omega) (by omega) (fun p => ?_)
      (repeat (first | with_reducible refine W.seq ?_ | with_reducible refine Ops.nil ?_ | with_reducible refine W.region ?_ | refine z_p (kk := ?_) | refine z_a (kk := ?_) | refine z_y (kk := ?_) | refine z_n (kk := ?_) | refine z_u (kk := ?_) | with_reducible refine W.skip ?_ | with_reducible refine W.endb ?_ | with_reducible refine W.block ?_ | refine W.exit rfl ?_ | refine z_l (kk := ?_) | refine z_f (kk := ?_) | refine z_M (kk := ?_) | refine z_m (kk := ?_) | refine z_e (kk := ?_) | refine z_E (kk := ?_) | refine z_d (kk := ?_)))
      refine Ops.rdS (enc := Value.int .i64) (z := (0 : Int)) rfl rfl rfl rfl rfl rfl rfl rfl rfl rfl rfl (Sl.below h2 hb4) (by omega) (by omega) (fun p => ?_)
      simp only [Int.toNat_natCast]
      (repeat (first | with_reducible refine W.seq ?_ | with_reducible refine Ops.nil ?_ | with_reducible refine W.region ?_ | refine z_p (kk := ?_) | refine z_a (kk := ?_) | refine z_y (kk := ?_) | refine z_n (kk := ?_) | refine z_u (kk := ?_) | with_reducible refine W.skip ?_ | with_reducible refine W.endb ?_ | with_reducible refine W.block ?_ | refine W.exit rfl ?_ | refine z_l (kk := ?_) | refine z_f (kk := ?_) | refine z_M (kk := ?_) | refine z_m (kk := ?_) | refine z_e (kk := ?_) | refine z_E (kk := ?_) | refine z_d (kk := ?_)))
      refine Ops.nilS rfl ?_
      (repeat (first | with_reducible refine W.seq ?_ | with_reducible refine Ops.nil ?_ | with_reducible refine W.region ?_ | refine z_p (kk := ?_) | refine z_a (kk := ?_) | refine z_y (kk := ?_) | refine z_n (kk := ?_) | refine z_u (kk := ?_) | with_reducible refine W.skip ?_ | with_reducible refine W.endb ?_ | with_reducible refine W.block ?_ | refine W.exit rfl ?_ | refine z_l (kk := ?_) | refine z_f (kk := ?_) | refine z_M (kk := ?_) | refine z_m (kk := ?_) | refine z_e (kk := ?_) | refine z_E (kk := ?_) | refine z_d (kk := ?_)))
      refine W.cond rfl (fun hc2 => ?_) (fun hc2 => ?_)
      · (repeat (first | with_reducible refine W.seq ?_ | with_reducible refine Ops.nil ?_ | with_reducible refine W.region ?_ | refine z_p (kk := ?_) | refine z_a (kk := ?_) | refine z_y (kk := ?_) | refine z_n (kk := ?_) | refine z_u (kk := ?_) | with_reducible refine W.skip ?_ | with_reducible refine W.endb ?_ | with_reducible refine W.block ?_ | refine W.exit rfl ?_ | refine z_l (kk := ?_) | refine z_f (kk := ?_) | refine z_M (kk := ?_) | refine z_m (kk := ?_) | refine z_e (kk := ?_) | refine z_E (kk := ?_) | refine z_d (kk := ?_)))
        refine W.fret rfl ⟨?_, hb4⟩
        have hne : xs ≠ ys := by intro e; subst e; simp at hc2
        simp [hne, resV]
      · (repeat (first | with_reducible refine W.seq ?_ | with_reducible refine Ops.nil ?_ | with_reducible refine W.region ?_ | refine z_p (kk := ?_) | refine z_a (kk := ?_) | refine z_y (kk := ?_) | refine z_n (kk := ?_) | refine z_u (kk := ?_) | with_reducible refine W.skip ?_ | with_reducible refine W.endb ?_ | with_reducible refine W.block ?_ | refine W.exit rfl ?_ | refine z_l (kk := ?_) | refine z_f (kk := ?_) | refine z_M (kk := ?_) | refine z_m (kk := ?_) | refine z_e (kk := ?_) | refine z_E (kk := ?_) | refine z_d (kk := ?_)))
        refine W.endl ⟨_, _, ⟨⟨j + 1, rfl, by omega, rfl, hb4, fun k hk => ?_⟩, by omega⟩, (by repeat (first | exact trivial | refine And.intro rfl ?_))⟩
        by_cases e : k = j
        · rw [e]; simpa using hc2
        · exact hok k (by omega)
    · have hlt : j = xs.length := by simp at hc; omega
      subst hlt
      (repeat (first | with_reducible refine W.seq ?_ | with_reducible refine Ops.nil ?_ | with_reducible refine W.region ?_ | refine z_p (kk := ?_) | refine z_a (kk := ?_) | refine z_y (kk := ?_) | refine z_n (kk := ?_) | refine z_u (kk := ?_) | with_reducible refine W.skip ?_ | with_reducible refine W.endb ?_ | with_reducible refine W.block ?_ | refine W.exit rfl ?_ | refine z_l (kk := ?_) | refine z_f (kk := ?_) | refine z_M (kk := ?_) | refine z_m (kk := ?_) | refine z_e (kk := ?_) | refine z_E (kk := ?_) | refine z_d (kk := ?_)))
      refine W.fret rfl ⟨?_, hb3⟩
      have he : xs = ys := by
        apply List.ext_getElem hll
        intro i i1 i2
        have := hok i i1
        simpa [List.getD_eq_getElem?_getD, i1, i2] using this
      simp [he, resV]
theorem own2 {w : World} {r : Nat} {a b : Int} (h : Blk w r #[.int .i64 a, .int .i64 b] 3) : SlI w (.slice (some ⟨r, 0, none⟩) 2 2) [a, b] := by
  refine ⟨by simp, _, 2, rfl, fun _ => ⟨_, rfl, fun j hj => ?_⟩⟩
  rw [add_lit, Nat.zero_add]
  rcases j with _ | _ | j
  · exact h.cell rfl
  · exact h.cell rfl
  · simp at hj; omega
theorem sl3 {w : World} {r : Nat} {a b c : Int} (h : Blk w r #[.int .i64 a, .int .i64 b, .int .i64 c] 3) : SlI w (.slice (some ⟨r, 0, none⟩) 3 3) [a, b, c] := by
  refine ⟨by simp, _, 3, rfl, fun _ => ⟨_, rfl, fun j hj => ?_⟩⟩
  rw [add_lit, Nat.zero_add]
  rcases j with _ | _ | _ | j
  · exact h.cell rfl
  · exact h.cell rfl
  · exact h.cell rfl
  · simp at hj; omega
theorem sample_c (w : World) : Calls Try.prog 62 #[] w (Ret fun r w' => TreeM w' r smp ∧ Below w.heap.size w w') := by
  refine calls_W (vs := []) Try.func62 rfl (by kernel_rfl) rfl ?_
  (repeat (first | with_reducible refine W.seq ?_ | with_reducible refine Ops.nil ?_ | with_reducible refine W.region ?_ | refine z_p (kk := ?_) | refine z_a (kk := ?_) | refine z_y (kk := ?_) | refine z_n (kk := ?_) | refine z_u (kk := ?_) | with_reducible refine W.skip ?_ | with_reducible refine W.endb ?_ | with_reducible refine W.block ?_ | refine W.exit rfl ?_ | refine z_l (kk := ?_) | refine z_f (kk := ?_) | refine z_M (kk := ?_) | refine z_m (kk := ?_) | refine z_e (kk := ?_) | refine z_E (kk := ?_) | refine z_d (kk := ?_)))
  refine Ops.bs2 rfl rfl rfl rfl rfl rfl rfl rfl rfl rfl rfl (fun w1 r1 hM1 => ?_)
  refine Ops.bldG (cs := #[.slice (some ⟨r1, 0, none⟩) 2 2, .int .i64 0]) rfl rfl rfl rfl rfl rfl (by kernel_rfl) ?_
  refine Ops.bs2 rfl rfl rfl rfl rfl rfl rfl rfl rfl rfl rfl (fun w2 r2 hM2 => ?_)
  refine Ops.bldG (cs := #[.slice (some ⟨r2, 0, none⟩) 2 2, .int .i64 0]) rfl rfl rfl rfl rfl rfl (by kernel_rfl) ?_
  refine Ops.bs2 rfl rfl rfl rfl rfl rfl rfl rfl rfl rfl rfl (fun w3 r3 hM3 => ?_)
  refine Ops.bldG (cs := #[.slice (some ⟨r3, 0, none⟩) 2 2, .int .i64 0]) rfl rfl rfl rfl rfl rfl (by kernel_rfl) ?_
  refine Ops.bldG (cs := #[.slice none 0 0, .int .i64 3]) rfl rfl rfl rfl rfl rfl (by kernel_rfl) ?_
  refine Ops.bldG (cs := #[.slice none 0 0, .int .i64 5]) rfl rfl rfl rfl rfl rfl (by kernel_rfl) ?_
  refine Ops.bldG (cs := #[.slice none 0 0, .int .i64 2]) rfl rfl rfl rfl rfl rfl (by kernel_rfl) ?_
  refine Ops.bldG (cs := #[.slice none 0 0, .int .i64 9]) rfl rfl rfl rfl rfl rfl (by kernel_rfl) ?_
  refine Ops.bsG (cs := #[.slice (some ⟨r1, 0, none⟩) 2 2, .int .i64 0, .slice (some ⟨r2, 0, none⟩) 2 2, .int .i64 0, .slice (some ⟨r3, 0, none⟩) 2 2, .int .i64 0, .slice none 0 0, .int .i64 3, .slice none 0 0, .int .i64 5, .slice none 0 0, .int .i64 2, .slice none 0 0, .int .i64 9]) rfl rfl rfl rfl rfl rfl rfl rfl rfl (by kernel_rfl) (fun w4 r4 hM4 => ?_)
  (repeat (first | with_reducible refine W.seq ?_ | with_reducible refine Ops.nil ?_ | with_reducible refine W.region ?_ | refine z_p (kk := ?_) | refine z_a (kk := ?_) | refine z_y (kk := ?_) | refine z_n (kk := ?_) | refine z_u (kk := ?_) | with_reducible refine W.skip ?_ | with_reducible refine W.endb ?_ | with_reducible refine W.block ?_ | refine W.exit rfl ?_ | refine z_l (kk := ?_) | refine z_f (kk := ?_) | refine z_M (kk := ?_) | refine z_m (kk := ?_) | refine z_e (kk := ?_) | refine z_E (kk := ?_) | refine z_d (kk := ?_)))
  have k14 := (hM2.kp.trans hM3.kp).trans hM4.kp
  have k24 := hM3.kp.trans hM4.kp
  have h1 := own2 (Blk.kp hM1.at_ k14 (by rintro ((h | h) | h) <;> exact h))
  have h2 := own2 (Blk.kp hM2.at_ k24 (by rintro (h | h) <;> exact h))
  have h3 := own2 (Blk.kp hM3.at_ hM4.kp (fun h => h))
  have h4 : Blk w4 r4 #[.slice (some ⟨r1, 0, none⟩) 2 2, .int .i64 0, .slice (some ⟨r2, 0, none⟩) 2 2, .int .i64 0, .slice (some ⟨r3, 0, none⟩) 2 2, .int .i64 0, .slice none 0 0, .int .i64 3, .slice none 0 0, .int .i64 5, .slice none 0 0, .int .i64 2, .slice none 0 0, .int .i64 9] 47 := hM4.at_
  refine W.fret rfl ⟨⟨some ⟨r4, 0, none⟩, 7, [.slice (some ⟨r1, 0, none⟩) 2 2, .slice (some ⟨r2, 0, none⟩) 2 2, .slice (some ⟨r3, 0, none⟩) 2 2, .slice none 0 0, .slice none 0 0, .slice none 0 0, .slice none 0 0], rfl, fun _ => ⟨_, rfl, fun j hj => ?_⟩, fun j hj => ?_⟩, ((((hM1.kp.trans hM2.kp).trans hM3.kp).trans hM4.kp)).below (Nat.le_refl _) (by rintro i _ (((h | h) | h) | h) <;> exact h)⟩
  · rw [add_lit, add_lit, Nat.zero_add]
    rcases j with _ | _ | _ | _ | _ | _ | _ | j
    · exact ⟨h4.cell rfl, h4.cell rfl⟩
    · exact ⟨h4.cell rfl, h4.cell rfl⟩
    · exact ⟨h4.cell rfl, h4.cell rfl⟩
    · exact ⟨h4.cell rfl, h4.cell rfl⟩
    · exact ⟨h4.cell rfl, h4.cell rfl⟩
    · exact ⟨h4.cell rfl, h4.cell rfl⟩
    · exact ⟨h4.cell rfl, h4.cell rfl⟩
    · simp at hj; omega
  · rcases j with _ | _ | _ | _ | _ | _ | _ | j
    · exact h1
    · exact h2
    · exact h3
    · exact Sl.nil _ _ _ _ _
    · exact Sl.nil _ _ _ _ _
    · exact Sl.nil _ _ _ _ _
    · exact Sl.nil _ _ _ _ _
    · simp at hj; omega
theorem awake_c (w : World) : Calls Try.prog 22 #[] w (Ret fun r w' => r = .bool true ∧ Below w.heap.size w w') := by
  refine calls_W (vs := []) Try.func22 rfl (by kernel_rfl) rfl ?_
  have hl : smp.length ≤ 9223372036854775807 := by decide
  (repeat (first | with_reducible refine W.seq ?_ | with_reducible refine Ops.nil ?_ | with_reducible refine W.region ?_ | refine z_p (kk := ?_) | refine z_a (kk := ?_) | refine z_y (kk := ?_) | refine z_n (kk := ?_) | refine z_u (kk := ?_) | with_reducible refine W.skip ?_ | with_reducible refine W.endb ?_ | with_reducible refine W.block ?_ | refine W.exit rfl ?_ | refine z_l (kk := ?_) | refine z_f (kk := ?_) | refine z_M (kk := ?_) | refine z_m (kk := ?_) | refine z_e (kk := ?_) | refine z_E (kk := ?_) | refine z_d (kk := ?_)))
  refine Ops.call rfl rfl rfl rfl rfl (sample_c w) (fun v1 w1 hR => ?_)
  obtain ⟨hT1, hb1⟩ := hR
  refine Ops.call rfl rfl rfl rfl rfl (value_c hT1 hl) (fun r w2 hR => ?_)
  obtain ⟨hb12, hR⟩ := hR
  rw [smp_game] at hR
  obtain ⟨vs, hvs, rfl⟩ := hR
  rw [smp_val hvs]
  have hb2 := hb1.trans (hb12.mono hb1.size)
  clear hvs hT1
  (repeat (first | with_reducible refine W.seq ?_ | with_reducible refine Ops.nil ?_ | with_reducible refine W.region ?_ | refine z_p (kk := ?_) | refine z_a (kk := ?_) | refine z_y (kk := ?_) | refine z_n (kk := ?_) | refine z_u (kk := ?_) | with_reducible refine W.skip ?_ | with_reducible refine W.endb ?_ | with_reducible refine W.block ?_ | refine W.exit rfl ?_ | refine z_l (kk := ?_) | refine z_f (kk := ?_) | refine z_M (kk := ?_) | refine z_m (kk := ?_) | refine z_e (kk := ?_) | refine z_E (kk := ?_) | refine z_d (kk := ?_)))
  refine Ops.call rfl rfl rfl rfl rfl (sample_c w2) (fun v3 w3 hR => ?_)
  obtain ⟨hT3, hb23⟩ := hR
  have hb3 := hb2.trans (hb23.mono hb2.size)
  refine Ops.call rfl rfl rfl rfl rfl (search_c hT3 hl) (fun r w4 hR => ?_)
  obtain ⟨hb34, hR⟩ := hR
  have hb4 := hb3.trans (hb34.mono hb3.size)
  simp only [SearchR, smp_game, Option.elim, smp_srch] at hR
  obtain ⟨lv, rfl, hI4⟩ := hR
  clear hT3
  (repeat (first | with_reducible refine W.seq ?_ | with_reducible refine Ops.nil ?_ | with_reducible refine W.region ?_ | refine z_p (kk := ?_) | refine z_a (kk := ?_) | refine z_y (kk := ?_) | refine z_n (kk := ?_) | refine z_u (kk := ?_) | with_reducible refine W.skip ?_ | with_reducible refine W.endb ?_ | with_reducible refine W.block ?_ | refine W.exit rfl ?_ | refine z_l (kk := ?_) | refine z_f (kk := ?_) | refine z_M (kk := ?_) | refine z_m (kk := ?_) | refine z_e (kk := ?_) | refine z_E (kk := ?_) | refine z_d (kk := ?_)))
  refine Ops.call rfl rfl rfl rfl rfl (sample_c w4) (fun v5 w5 hR => ?_)
  obtain ⟨hT5, hb45⟩ := hR
  have hb5 := hb4.trans (hb45.mono hb4.size)
  refine Ops.call rfl rfl rfl rfl rfl (proof_c hT5 hl) (fun r w6 hR => ?_)
  obtain ⟨hb56, hR⟩ := hR
  have hb6 := hb5.trans (hb56.mono hb5.size)
  simp only [ProvedR, smp_game] at hR
  rw [if_pos (by decide)] at hR
  simp only [Option.elim] at hR
  obtain ⟨es, hes, _, hR⟩ := hR
  rw [smp_proof hes] at hR
  rcases hR with ⟨h, _⟩ | ⟨_, pv, rfl, hI6⟩
  · exact absurd h (by decide)
  clear hT5 hes
  (repeat (first | with_reducible refine W.seq ?_ | with_reducible refine Ops.nil ?_ | with_reducible refine W.region ?_ | refine z_p (kk := ?_) | refine z_a (kk := ?_) | refine z_y (kk := ?_) | refine z_n (kk := ?_) | refine z_u (kk := ?_) | with_reducible refine W.skip ?_ | with_reducible refine W.endb ?_ | with_reducible refine W.block ?_ | refine W.exit rfl ?_ | refine z_l (kk := ?_) | refine z_f (kk := ?_) | refine z_M (kk := ?_) | refine z_m (kk := ?_) | refine z_e (kk := ?_) | refine z_E (kk := ?_) | refine z_d (kk := ?_)))
  refine Ops.call rfl rfl rfl rfl rfl (sample_c w6) (fun v7 w7 hR => ?_)
  obtain ⟨hT7, hb67⟩ := hR
  have hb7 := hb6.trans (hb67.mono hb6.size)
  refine Ops.call rfl rfl rfl rfl rfl (numbers_c hT7 hl (Sl.nil (Value.int .i64) (0 : Int) w7 none 0)) (fun r w8 hR => ?_)
  obtain ⟨hb78, hR⟩ := hR
  have hb8 := hb7.trans (hb78.mono hb7.size)
  simp only [NumbersR, smp_game] at hR
  rw [if_pos (by decide)] at hR
  simp only [Option.elim] at hR
  obtain ⟨y, z, hy, hz, rfl⟩ := hR
  rw [smp_num hy, smp_num hz]
  have hI48 := Sl.below hI4.sl (hb45.trans ((hb56.trans ((hb67.trans (hb78.mono hb67.size)).mono hb56.size)).mono hb45.size))
  have hI68 := Sl.below hI6.sl (hb67.trans (hb78.mono hb67.size))
  clear hT7 hy hz
  (repeat (first | with_reducible refine W.seq ?_ | with_reducible refine Ops.nil ?_ | with_reducible refine W.region ?_ | refine z_p (kk := ?_) | refine z_a (kk := ?_) | refine z_y (kk := ?_) | refine z_n (kk := ?_) | refine z_u (kk := ?_) | with_reducible refine W.skip ?_ | with_reducible refine W.endb ?_ | with_reducible refine W.block ?_ | refine W.exit rfl ?_ | refine z_l (kk := ?_) | refine z_f (kk := ?_) | refine z_M (kk := ?_) | refine z_m (kk := ?_) | refine z_e (kk := ?_) | refine z_E (kk := ?_) | refine z_d (kk := ?_)))
  refine Ops.bsG (cs := #[.int .i64 3, .int .i64 4, .int .i64 5]) rfl rfl rfl rfl rfl rfl rfl rfl rfl (by kernel_rfl) (fun w9 r9 hM9 => ?_)
  have hb9 : Below w.heap.size w w9 := Below.at_ hb8 hM9.kp (fun _ e => e.elim)
  have h9 : SlI w9 (.slice (some ⟨r9, 0, none⟩) 3 3) [3, 4, 5] := sl3 hM9.at_
  have hI49 := hI48.kp hM9.kp (fun _ _ e => e)
  have hI69 := hI68.kp hM9.kp (fun _ _ e => e)
  (repeat (first | with_reducible refine W.seq ?_ | with_reducible refine Ops.nil ?_ | with_reducible refine W.region ?_ | refine z_p (kk := ?_) | refine z_a (kk := ?_) | refine z_y (kk := ?_) | refine z_n (kk := ?_) | refine z_u (kk := ?_) | with_reducible refine W.skip ?_ | with_reducible refine W.endb ?_ | with_reducible refine W.block ?_ | refine W.exit rfl ?_ | refine z_l (kk := ?_) | refine z_f (kk := ?_) | refine z_M (kk := ?_) | refine z_m (kk := ?_) | refine z_e (kk := ?_) | refine z_E (kk := ?_) | refine z_d (kk := ?_)))
  refine Ops.call rfl rfl rfl rfl rfl (ints_c hI49 h9) (fun r w10 hR => ?_)
  obtain ⟨rfl, hb910⟩ := hR
  rw [decide_eq_true (rfl : ([3, 4, 5] : List Int) = [3, 4, 5])]
  have hb10 := hb9.trans (hb910.mono hb9.size)
  (repeat (first | with_reducible refine W.seq ?_ | with_reducible refine Ops.nil ?_ | with_reducible refine W.region ?_ | refine z_p (kk := ?_) | refine z_a (kk := ?_) | refine z_y (kk := ?_) | refine z_n (kk := ?_) | refine z_u (kk := ?_) | with_reducible refine W.skip ?_ | with_reducible refine W.endb ?_ | with_reducible refine W.block ?_ | refine W.exit rfl ?_ | refine z_l (kk := ?_) | refine z_f (kk := ?_) | refine z_M (kk := ?_) | refine z_m (kk := ?_) | refine z_e (kk := ?_) | refine z_E (kk := ?_) | refine z_d (kk := ?_)))
  refine Ops.bs2 rfl rfl rfl rfl rfl rfl rfl rfl rfl rfl rfl (fun w11 r11 hM11 => ?_)
  have hb11 : Below w.heap.size w w11 := Below.at_ hb10 hM11.kp (fun _ e => e.elim)
  have h11 : SlI w11 (.slice (some ⟨r11, 0, none⟩) 2 2) [3, 4] := own2 hM11.at_
  have hI611 := (Sl.below hI69 hb910).kp hM11.kp (fun _ _ e => e)
  (repeat (first | with_reducible refine W.seq ?_ | with_reducible refine Ops.nil ?_ | with_reducible refine W.region ?_ | refine z_p (kk := ?_) | refine z_a (kk := ?_) | refine z_y (kk := ?_) | refine z_n (kk := ?_) | refine z_u (kk := ?_) | with_reducible refine W.skip ?_ | with_reducible refine W.endb ?_ | with_reducible refine W.block ?_ | refine W.exit rfl ?_ | refine z_l (kk := ?_) | refine z_f (kk := ?_) | refine z_M (kk := ?_) | refine z_m (kk := ?_) | refine z_e (kk := ?_) | refine z_E (kk := ?_) | refine z_d (kk := ?_)))
  refine Ops.call rfl rfl rfl rfl rfl (ints_c hI611 h11) (fun r w12 hR => ?_)
  obtain ⟨rfl, hb1112⟩ := hR
  have he : ((2, [3, 4]) : Ef).2.mergeSort (fun x y => decide (x ≤ y)) = [3, 4] := List.mergeSort_of_pairwise (by simp)
  rw [decide_eq_true he]
  have hb12' := hb11.trans (hb1112.mono hb11.size)
  (repeat (first | with_reducible refine W.seq ?_ | with_reducible refine Ops.nil ?_ | with_reducible refine W.region ?_ | refine z_p (kk := ?_) | refine z_a (kk := ?_) | refine z_y (kk := ?_) | refine z_n (kk := ?_) | refine z_u (kk := ?_) | with_reducible refine W.skip ?_ | with_reducible refine W.endb ?_ | with_reducible refine W.block ?_ | refine W.exit rfl ?_ | refine z_l (kk := ?_) | refine z_f (kk := ?_) | refine z_M (kk := ?_) | refine z_m (kk := ?_) | refine z_e (kk := ?_) | refine z_E (kk := ?_) | refine z_d (kk := ?_)))
  refine W.cond rfl (fun hc => ?_) (fun hc => ?_)
  · simp at hc
  (repeat (first | with_reducible refine W.seq ?_ | with_reducible refine Ops.nil ?_ | with_reducible refine W.region ?_ | refine z_p (kk := ?_) | refine z_a (kk := ?_) | refine z_y (kk := ?_) | refine z_n (kk := ?_) | refine z_u (kk := ?_) | with_reducible refine W.skip ?_ | with_reducible refine W.endb ?_ | with_reducible refine W.block ?_ | refine W.exit rfl ?_ | refine z_l (kk := ?_) | refine z_f (kk := ?_) | refine z_M (kk := ?_) | refine z_m (kk := ?_) | refine z_e (kk := ?_) | refine z_E (kk := ?_) | refine z_d (kk := ?_)))
  refine W.cond rfl (fun hc => ?_) (fun hc => ?_)
  · simp at hc
  (repeat (first | with_reducible refine W.seq ?_ | with_reducible refine Ops.nil ?_ | with_reducible refine W.region ?_ | refine z_p (kk := ?_) | refine z_a (kk := ?_) | refine z_y (kk := ?_) | refine z_n (kk := ?_) | refine z_u (kk := ?_) | with_reducible refine W.skip ?_ | with_reducible refine W.endb ?_ | with_reducible refine W.block ?_ | refine W.exit rfl ?_ | refine z_l (kk := ?_) | refine z_f (kk := ?_) | refine z_M (kk := ?_) | refine z_m (kk := ?_) | refine z_e (kk := ?_) | refine z_E (kk := ?_) | refine z_d (kk := ?_)))
  exact W.fret rfl ⟨rfl, hb12'⟩
theorem app_getD {α : Type} {xs : List α} {z d : α} {j : Nat} (h : j < xs.length) : (xs ++ [z]).getD j d = xs.getD j d := by rw [List.getD_eq_getElem?_getD, List.getElem?_append_left h, ← List.getD_eq_getElem?_getD]
theorem app_last {α : Type} {xs : List α} {z d : α} {n : Nat} (h : n = xs.length) : (xs ++ [z]).getD n d = z := by subst h; simp [List.getD_eq_getElem?_getD]
end Go.Proofs.Ytdiljpnfochndaa
namespace Go.Proofs.Ytdiljpnfochndaa
open Go Go.RowKit Go.Proofs.Ytdiljpnfochndaa.VW
open Go.Proofs.Ytdiljpnfochndaa.HP (Nd kid wor leafB rd evB gameOf gameOf_TF ValP far TF Dn k_)
attribute [local irreducible] W Ops
theorem evB_kid {l : List Nd} {dep : List Int} (hT : TF l dep) {i j : Nat} (hi : i < l.length) (hj : j < (kid l i).length) : evB dep ((kid l i).getD j 0) = !evB dep i := by
  have h1 := hT.kdep i j hi hj
  have h2 := hT.dbd i
  simp only [k_] at h1
  unfold evB
  rw [h1]
  simp only [rd, Int.toNat_natCast]
  generalize dep.getD i 0 = d at *
  rw [Int.tmod_eq_emod_of_nonneg (by omega), Int.tmod_eq_emod_of_nonneg (by omega)]
  by_cases h : d % 2 = 0
  · rw [h, show (d + 1) % 2 = 1 by omega]; rfl
  · rw [show d % 2 = 1 by omega, show (d + 1) % 2 = 0 by omega]; rfl
/-- Which nodes are known after j children of node i. -/
def EvI (l : List Nd) (dep : List Int) (i j : Nat) (bs : List Bool) : Prop := bs.length = l.length ∧ bs.getD 0 false = true ∧ ∀ a b, Dn i j a b → b < (kid l a).length → bs.getD (k_ l a b).toNat false = evB dep (k_ l a b)
theorem EvI.step {l : List Nd} {dep : List Int} (hT : TF l dep) {i j : Nat} {bs : List Bool} (hi : i < l.length) (hj : j < (kid l i).length) (h : EvI l dep i j bs) : EvI l dep i (j + 1) (bs.set ((kid l i).getD j 0).toNat (!evB dep i)) := by
  obtain ⟨h1, h2, h3⟩ := h
  have hk := hT.kin i j hi hj
  simp only [k_] at hk
  refine ⟨by simpa using h1, by rw [lgetD_set_ne (by omega)]; exact h2, fun a b hd hb => ?_⟩
  by_cases e : a = i ∧ b = j
  · obtain ⟨rfl, rfl⟩ := e
    unfold k_
    rw [lgetD_set_eq (by omega), evB_kid hT hi hj]
  · have hd' : Dn i j a b := by unfold Dn at *; omega
    have ha : a < l.length := by unfold Dn at hd'; omega
    have hk2 := hT.kin a b ha hb
    rw [lgetD_set_ne (fun e2 => e (hT.inj a b i j ha hb hi hj (by simp only [k_] at *; omega)))]
    exact h3 a b hd' hb
theorem EvI.at_ {l : List Nd} {dep : List Int} (hT : TF l dep) {i j : Nat} {bs : List Bool} (hi : i < l.length) (h : EvI l dep i j bs) (h0 : dep.getD 0 0 = 0) : bs.getD i false = evB dep i := by
  obtain ⟨h1, h2, h3⟩ := h
  by_cases e : i = 0
  · subst e
    rw [h2]
    unfold evB
    simp only [rd]
    rw [show ((0 : Nat) : Int).toNat = 0 from rfl, h0]
    rfl
  · obtain ⟨a, b, ha, hb, hk⟩ := hT.cov i (by omega) hi
    have := hT.kin a b ha hb
    have := h3 a b (.inl (by omega)) hb
    rw [hk] at this
    simpa using this
theorem even_c {w : World} {v : Value} {l : List Nd} {dep : List Int} (hTr : TreeM w v l) (hT : TF l dep) :
    Calls Try.prog 52 #[v] w (Ret fun r w' => ∃ bs : List Bool, OI 4 Value.bool w w' r bs ∧ bs.length = l.length ∧ ∀ i : Nat, i < l.length → bs.getD i false = evB dep i) := by
  obtain ⟨At, ct, rfl⟩ := hTr.sl
  have hn := hT.n60
  have hn1 := hT.n1
  have hd0 : dep.getD 0 0 = 0 := by have := hT.dbd 0; omega
  refine calls_W (vs := [_]) Try.func52 rfl (by kernel_rfl) rfl ?_
  (repeat (first | with_reducible refine W.seq ?_ | with_reducible refine Ops.nil ?_ | with_reducible refine W.region ?_ | refine z_p (kk := ?_) | refine z_a (kk := ?_) | refine z_y (kk := ?_) | refine z_n (kk := ?_) | refine z_u (kk := ?_) | with_reducible refine W.skip ?_ | with_reducible refine W.endb ?_ | with_reducible refine W.block ?_ | refine W.exit rfl ?_ | refine z_l (kk := ?_) | refine z_f (kk := ?_) | refine z_M (kk := ?_) | refine z_m (kk := ?_) | refine z_e (kk := ?_) | refine z_E (kk := ?_) | refine z_d (kk := ?_)))
  refine Ops.mkS rfl rfl rfl rfl rfl rfl rfl rfl rfl (by omega) (by simp; omega) (fun w1 dr hdr k1 hdl hown => ?_)
  simp only [Int.toNat_natCast] at hown ⊢
  have hb1 : Below w.heap.size w w1 := k1.below (Nat.le_refl _) (fun _ _ e => e)
  have hm : (madeCells (Value.bool false).cells (l.length * 1)).toList = (List.replicate l.length false).map Value.bool := by
    rw [madeCells_one rfl, Nat.mul_one, List.map_replicate]
  have hO1 : OI 4 Value.bool w w1 (.slice (some ⟨dr, 0, none⟩) l.length l.length) (List.replicate l.length false) := by
    refine ⟨hb1, ?_, fun k hk => by simp [Value.ownBlock] at hk; omega⟩
    rw [← hm, List.length_replicate]
    exact hown
  (repeat (first | with_reducible refine W.seq ?_ | with_reducible refine Ops.nil ?_ | with_reducible refine W.region ?_ | refine z_p (kk := ?_) | refine z_a (kk := ?_) | refine z_y (kk := ?_) | refine z_n (kk := ?_) | refine z_u (kk := ?_) | with_reducible refine W.skip ?_ | with_reducible refine W.endb ?_ | with_reducible refine W.block ?_ | refine W.exit rfl ?_ | refine z_l (kk := ?_) | refine z_f (kk := ?_) | refine z_M (kk := ?_) | refine z_m (kk := ?_) | refine z_e (kk := ?_) | refine z_E (kk := ?_) | refine z_d (kk := ?_)))
  refine Ops.wrS rfl rfl rfl rfl rfl rfl rfl rfl rfl rfl rfl rfl (by simp) rfl hO1.own (by omega) (by simp; omega) (fun w2 p hown2 k2 _ => ?_)
  have hO2 : OI 4 Value.bool w w2 (.slice (some ⟨dr, 0, none⟩) l.length l.length) ((List.replicate l.length false).set 0 true) :=
    ⟨Below.at_ hb1 k2 (fun i hi => hO1.ge i hi), by rw [List.length_set, List.map_set]; exact hown2, hO1.ge⟩
  have hE2 : EvI l dep 0 0 ((List.replicate l.length false).set 0 true) := ⟨by simp, lgetD_set_eq (by simp; omega), fun a b hd => by unfold Dn at hd; omega⟩
  generalize (List.replicate l.length false).set 0 true = bs2 at *
  clear hO1 hown hm hown2 k2 k1
  (repeat (first | with_reducible refine W.seq ?_ | with_reducible refine Ops.nil ?_ | with_reducible refine W.region ?_ | refine z_p (kk := ?_) | refine z_a (kk := ?_) | refine z_y (kk := ?_) | refine z_n (kk := ?_) | refine z_u (kk := ?_) | with_reducible refine W.skip ?_ | with_reducible refine W.endb ?_ | with_reducible refine W.block ?_ | refine W.exit rfl ?_ | refine z_l (kk := ?_) | refine z_f (kk := ?_) | refine z_M (kk := ?_) | refine z_m (kk := ?_) | refine z_e (kk := ?_) | refine z_E (kk := ?_) | refine z_d (kk := ?_)))
  refine W.loop (fun m ρ w3 => ∃ (i : Nat) (bs : List Bool), m = l.length - i ∧ i ≤ l.length ∧ ρ = [(0, .slice At l.length ct), (3, .slice (some ⟨dr, 0, none⟩) l.length l.length), (4, .int .i64 i)] ∧ OI 4 Value.bool w w3 (.slice (some ⟨dr, 0, none⟩) l.length l.length) bs ∧ EvI l dep i 0 bs)
    ⟨_, _, ⟨0, _, rfl, Nat.zero_le _, rfl, hO2, hE2⟩, (by repeat (first | exact trivial | refine And.intro rfl ?_))⟩ ?_
  clear hO2 hE2
  rintro m ρ w3 ⟨i, bs, rfl, hi, rfl, hO, hE⟩
  (repeat (first | with_reducible refine W.seq ?_ | with_reducible refine Ops.nil ?_ | with_reducible refine W.region ?_ | refine z_p (kk := ?_) | refine z_a (kk := ?_) | refine z_y (kk := ?_) | refine z_n (kk := ?_) | refine z_u (kk := ?_) | with_reducible refine W.skip ?_ | with_reducible refine W.endb ?_ | with_reducible refine W.block ?_ | refine W.exit rfl ?_ | refine z_l (kk := ?_) | refine z_f (kk := ?_) | refine z_M (kk := ?_) | refine z_m (kk := ?_) | refine z_e (kk := ?_) | refine z_E (kk := ?_) | refine z_d (kk := ?_)))
  refine W.cond rfl (fun hc => ?_) (fun hc => ?_)
  · have hlt : i < l.length := by simp at hc; omega
    (repeat (first | with_reducible refine W.seq ?_ | with_reducible refine Ops.nil ?_ | with_reducible refine W.region ?_ | refine z_p (kk := ?_) | refine z_a (kk := ?_) | refine z_y (kk := ?_) | refine z_n (kk := ?_) | refine z_u (kk := ?_) | with_reducible refine W.skip ?_ | with_reducible refine W.endb ?_ | with_reducible refine W.block ?_ | refine W.exit rfl ?_ | refine z_l (kk := ?_) | refine z_f (kk := ?_) | refine z_M (kk := ?_) | refine z_m (kk := ?_) | refine z_e (kk := ?_) | refine z_E (kk := ?_) | refine z_d (kk := ?_)))
    refine W.loop (fun m ρ w4 => ∃ (j : Nat) (bs : List Bool), m = (kid l i).length - j ∧ j ≤ (kid l i).length ∧ ρ = [(0, .slice At l.length ct), (3, .slice (some ⟨dr, 0, none⟩) l.length l.length), (4, .int .i64 i), (5, .int .i64 j)] ∧ OI 4 Value.bool w w4 (.slice (some ⟨dr, 0, none⟩) l.length l.length) bs ∧ EvI l dep i j bs)
      ⟨_, _, ⟨0, _, rfl, Nat.zero_le _, rfl, hO, hE⟩, (by repeat (first | exact trivial | refine And.intro rfl ?_))⟩ ?_
    rintro m ρ w4 ⟨j, bs, rfl, hj, rfl, hO, hE⟩
    have hkl := hT.klen i hlt
    (repeat (first | with_reducible refine W.seq ?_ | with_reducible refine Ops.nil ?_ | with_reducible refine W.region ?_ | refine z_p (kk := ?_) | refine z_a (kk := ?_) | refine z_y (kk := ?_) | refine z_n (kk := ?_) | refine z_u (kk := ?_) | with_reducible refine W.skip ?_ | with_reducible refine W.endb ?_ | with_reducible refine W.block ?_ | refine W.exit rfl ?_ | refine z_l (kk := ?_) | refine z_f (kk := ?_) | refine z_M (kk := ?_) | refine z_m (kk := ?_) | refine z_e (kk := ?_) | refine z_E (kk := ?_) | refine z_d (kk := ?_)))
    refine Ops.rdK rfl rfl rfl rfl rfl rfl rfl rfl rfl rfl rfl rfl rfl rfl rfl hTr hO.bel (by omega) (by omega) (fun cv p q hcv => ?_)
    obtain ⟨Ac, cc, rfl⟩ := Sl.sl hcv
    (repeat (first | with_reducible refine W.seq ?_ | with_reducible refine Ops.nil ?_ | with_reducible refine W.region ?_ | refine z_p (kk := ?_) | refine z_a (kk := ?_) | refine z_y (kk := ?_) | refine z_n (kk := ?_) | refine z_u (kk := ?_) | with_reducible refine W.skip ?_ | with_reducible refine W.endb ?_ | with_reducible refine W.block ?_ | refine W.exit rfl ?_ | refine z_l (kk := ?_) | refine z_f (kk := ?_) | refine z_M (kk := ?_) | refine z_m (kk := ?_) | refine z_e (kk := ?_) | refine z_E (kk := ?_) | refine z_d (kk := ?_)))
    refine W.cond rfl (fun hc => ?_) (fun hc => ?_)
    · have hjl : j < (kid l i).length := by simp at hc; omega
      have hkin := hT.kin i j hlt hjl
      simp only [k_] at hkin
      have hbi := hE.at_ hT hlt hd0
      have hst := hE.step hT hlt hjl
      have hel := hE.1
      (repeat (first | with_reducible refine W.seq ?_ | with_reducible refine Ops.nil ?_ | with_reducible refine W.region ?_ | refine z_p (kk := ?_) | refine z_a (kk := ?_) | refine z_y (kk := ?_) | refine z_n (kk := ?_) | refine z_u (kk := ?_) | with_reducible refine W.skip ?_ | with_reducible refine W.endb ?_ | with_reducible refine W.block ?_ | refine W.exit rfl ?_ | refine z_l (kk := ?_) | refine z_f (kk := ?_) | refine z_M (kk := ?_) | refine z_m (kk := ?_) | refine z_e (kk := ?_) | refine z_E (kk := ?_) | refine z_d (kk := ?_)))
      refine W.tail' 14 rfl (by kernel_rfl) (fun w5 k5 _ => ?_)
      have hO5 := hO.kp k5 (fun _ e => e.elim)
      (repeat (first | with_reducible refine W.seq ?_ | with_reducible refine Ops.nil ?_ | with_reducible refine W.region ?_ | refine z_p (kk := ?_) | refine z_a (kk := ?_) | refine z_y (kk := ?_) | refine z_n (kk := ?_) | refine z_u (kk := ?_) | with_reducible refine W.skip ?_ | with_reducible refine W.endb ?_ | with_reducible refine W.block ?_ | refine W.exit rfl ?_ | refine z_l (kk := ?_) | refine z_f (kk := ?_) | refine z_M (kk := ?_) | refine z_m (kk := ?_) | refine z_e (kk := ?_) | refine z_E (kk := ?_) | refine z_d (kk := ?_)))
      refine Ops.rdK rfl rfl rfl rfl rfl rfl rfl rfl rfl rfl rfl rfl rfl rfl rfl hTr hO5.bel (by omega) (by omega) (fun cv2 p q hcv2 => ?_)
      (repeat (first | with_reducible refine W.seq ?_ | with_reducible refine Ops.nil ?_ | with_reducible refine W.region ?_ | refine z_p (kk := ?_) | refine z_a (kk := ?_) | refine z_y (kk := ?_) | refine z_n (kk := ?_) | refine z_u (kk := ?_) | with_reducible refine W.skip ?_ | with_reducible refine W.endb ?_ | with_reducible refine W.block ?_ | refine W.exit rfl ?_ | refine z_l (kk := ?_) | refine z_f (kk := ?_) | refine z_M (kk := ?_) | refine z_m (kk := ?_) | refine z_e (kk := ?_) | refine z_E (kk := ?_) | refine z_d (kk := ?_)))
      refine Ops.rdS (enc := Value.int .i64) (z := (0 : Int)) rfl rfl rfl rfl rfl rfl rfl rfl rfl rfl rfl (Sl.below hcv2 hO5.bel) (by omega) (by omega) (fun p => ?_)
      simp only [Int.toNat_natCast]
      generalize (kid l i).getD j 0 = cj at *
      (repeat (first | with_reducible refine W.seq ?_ | with_reducible refine Ops.nil ?_ | with_reducible refine W.region ?_ | refine z_p (kk := ?_) | refine z_a (kk := ?_) | refine z_y (kk := ?_) | refine z_n (kk := ?_) | refine z_u (kk := ?_) | with_reducible refine W.skip ?_ | with_reducible refine W.endb ?_ | with_reducible refine W.block ?_ | refine W.exit rfl ?_ | refine z_l (kk := ?_) | refine z_f (kk := ?_) | refine z_M (kk := ?_) | refine z_m (kk := ?_) | refine z_e (kk := ?_) | refine z_E (kk := ?_) | refine z_d (kk := ?_)))
      refine Ops.rdS (enc := Value.bool) (z := false) rfl rfl rfl rfl rfl rfl rfl rfl rfl rfl rfl hO5.sl (by omega) (by omega) (fun p => ?_)
      simp only [Int.toNat_natCast]
      rw [hbi]
      (repeat (first | with_reducible refine W.seq ?_ | with_reducible refine Ops.nil ?_ | with_reducible refine W.region ?_ | refine z_p (kk := ?_) | refine z_a (kk := ?_) | refine z_y (kk := ?_) | refine z_n (kk := ?_) | refine z_u (kk := ?_) | with_reducible refine W.skip ?_ | with_reducible refine W.endb ?_ | with_reducible refine W.block ?_ | refine W.exit rfl ?_ | refine z_l (kk := ?_) | refine z_f (kk := ?_) | refine z_M (kk := ?_) | refine z_m (kk := ?_) | refine z_e (kk := ?_) | refine z_E (kk := ?_) | refine z_d (kk := ?_)))
      refine Ops.nilS rfl ?_
      refine Ops.wrS rfl rfl rfl rfl rfl rfl rfl rfl rfl rfl rfl rfl (by simp) rfl hO5.own (by omega) (by omega) (fun w6 p hown6 k6 _ => ?_)
      have hO6 : OI 4 Value.bool w w6 (.slice (some ⟨dr, 0, none⟩) l.length l.length) (bs.set cj.toNat (!evB dep i)) :=
        ⟨Below.at_ hO5.bel k6 (fun i hi => hO5.ge i hi), by rw [List.length_set, List.map_set]; exact hown6, hO5.ge⟩
      (repeat (first | with_reducible refine W.seq ?_ | with_reducible refine Ops.nil ?_ | with_reducible refine W.region ?_ | refine z_p (kk := ?_) | refine z_a (kk := ?_) | refine z_y (kk := ?_) | refine z_n (kk := ?_) | refine z_u (kk := ?_) | with_reducible refine W.skip ?_ | with_reducible refine W.endb ?_ | with_reducible refine W.block ?_ | refine W.exit rfl ?_ | refine z_l (kk := ?_) | refine z_f (kk := ?_) | refine z_M (kk := ?_) | refine z_m (kk := ?_) | refine z_e (kk := ?_) | refine z_E (kk := ?_) | refine z_d (kk := ?_)))
      exact W.endl ⟨_, _, ⟨⟨j + 1, _, rfl, by omega, rfl, hO6, hst⟩, by omega⟩, (by repeat (first | exact trivial | refine And.intro rfl ?_))⟩
    · have hjl : j = (kid l i).length := by simp at hc; omega
      subst hjl
      have hE' : EvI l dep (i + 1) 0 bs := ⟨hE.1, hE.2.1, fun a b hd hb => hE.2.2 a b (by unfold Dn at *; by_cases e : a = i; subst e; exact .inr ⟨rfl, hb⟩; omega) hb⟩
      (repeat (first | with_reducible refine W.seq ?_ | with_reducible refine Ops.nil ?_ | with_reducible refine W.region ?_ | refine z_p (kk := ?_) | refine z_a (kk := ?_) | refine z_y (kk := ?_) | refine z_n (kk := ?_) | refine z_u (kk := ?_) | with_reducible refine W.skip ?_ | with_reducible refine W.endb ?_ | with_reducible refine W.block ?_ | refine W.exit rfl ?_ | refine z_l (kk := ?_) | refine z_f (kk := ?_) | refine z_M (kk := ?_) | refine z_m (kk := ?_) | refine z_e (kk := ?_) | refine z_E (kk := ?_) | refine z_d (kk := ?_)))
      exact W.endl ⟨_, _, ⟨⟨i + 1, _, rfl, by omega, rfl, hO, hE'⟩, by omega⟩, (by repeat (first | exact trivial | refine And.intro rfl ?_))⟩
  · have hlt : i = l.length := by simp at hc; omega
    subst hlt
    (repeat (first | with_reducible refine W.seq ?_ | with_reducible refine Ops.nil ?_ | with_reducible refine W.region ?_ | refine z_p (kk := ?_) | refine z_a (kk := ?_) | refine z_y (kk := ?_) | refine z_n (kk := ?_) | refine z_u (kk := ?_) | with_reducible refine W.skip ?_ | with_reducible refine W.endb ?_ | with_reducible refine W.block ?_ | refine W.exit rfl ?_ | refine z_l (kk := ?_) | refine z_f (kk := ?_) | refine z_M (kk := ?_) | refine z_m (kk := ?_) | refine z_e (kk := ?_) | refine z_E (kk := ?_) | refine z_d (kk := ?_)))
    refine W.fret rfl ⟨bs, hO, hE.1, fun c hc => ?_⟩
    exact EvI.at_ hT (i := c) (j := 0) hc ⟨hE.1, hE.2.1, fun a b hd hb => hE.2.2 a b (by unfold Dn at *; omega) hb⟩ hd0
end Go.Proofs.Ytdiljpnfochndaa
/- What a tree must fulfil; and that it is one then. -/
namespace Go.Proofs.Ytdiljpnfochndaa.HP
structure TK (l : List Nd) : Prop where
  n1 : 1 ≤ l.length
  n60 : l.length ≤ 60
  kin : ∀ a b : Nat, a < l.length → b < (kid l a).length → (a : Int) < k_ l a b ∧ k_ l a b < l.length
  inj : ∀ a b a' b' : Nat, a < l.length → b < (kid l a).length → a' < l.length → b' < (kid l a').length → k_ l a b = k_ l a' b' → a = a' ∧ b = b'
  cov : ∀ c : Nat, 1 ≤ c → c < l.length → ∃ a b : Nat, a < l.length ∧ b < (kid l a).length ∧ k_ l a b = c
  wor : ∀ a : Nat, a < l.length → -100 ≤ wor l a ∧ Go.Proofs.Ytdiljpnfochndaa.HP.wor l a ≤ 100 ∧ (0 < (kid l a).length → Go.Proofs.Ytdiljpnfochndaa.HP.wor l a = 0)
theorem TF.tk {l : List Nd} {dep : List Int} (h : TF l dep) : TK l := ⟨h.n1, h.n60, h.kin, h.inj, h.cov, h.wor⟩
theorem kids_go {l : List Nd} (hT : TK l) {i : Nat} (hi : i < l.length) (d : Nat) : ∀ (j : Nat) (dep : List Int), (kid l i).length - j = d → j ≤ (kid l i).length → Inv l i j dep → j ≤ cnt dep → ∃ dep', kidsStep l.length i ((kid l i).drop j) dep = some dep' := by
  induction d with
  | zero =>
    intro j dep hd hj h hjc
    rw [List.drop_eq_nil_of_le (by omega)]
    exact ⟨dep, rfl⟩
  | succ d ih =>
    intro j dep hd hj h hjc
    have hlt : j < (kid l i).length := by omega
    rw [kids_at _ _ _ _ _ hlt]
    have hk := hT.kin i j hi hlt
    have h3 : rd dep (k_ l i j) ≤ 0 := by
      by_cases e : rd dep (k_ l i j) ≤ 0
      · exact e
      · have hp : 0 < dep.getD (k_ l i j).toNat 0 := by simp only [rd] at e; omega
        obtain ⟨a, b, h1, h2, h4⟩ := h.p2 _ hp
        have ha : a < l.length := by unfold Dn at h1; omega
        have := hT.inj a b i j ha h2 hi hlt (by rw [h4]; omega)
        unfold Dn at h1
        omega
    have hc : (i : Int) + 1 ≤ (kid l i).getD j 0 ∧ (kid l i).getD j 0 ≤ (l.length : Int) - 1 ∧ rd dep ((kid l i).getD j 0) ≤ 0 := ⟨by have := hk.1; simp only [k_] at this; omega, by have := hk.2; simp only [k_] at this; omega, h3⟩
    rw [if_pos hc]
    have hbi := h.p4 i
    have h3' := h3
    simp only [rd] at h3'
    have hcc : cnt (dep.set (k_ l i j).toNat (rd dep i + 1)) = cnt dep + 1 := cnt_set (by rw [h.len]; omega) h3' (by simp only [rd, Int.toNat_natCast]; omega)
    exact ih (j + 1) _ (by omega) (by omega) (inv_step h hi hlt hc.1 hc.2.1 hc.2.2 (fun b hb => by omega) hjc) (by simp only [k_] at hcc; rw [hcc]; omega)
theorem node_step {l : List Nd} {i : Nat} {dep dep1 : List Int} (hlt : i < l.length) (h : NInv l i dep) (hc : ¬ ((0 < (i : Int) ∧ rd dep i = 0) ∨ ¬ (-100 ≤ wor l i ∧ wor l i ≤ 100) ∨ (0 < (kid l i).length ∧ wor l i ≠ 0))) (h1 : kidsStep l.length i (kid l i) dep = some dep1) : NInv l (i + 1) dep1 := by
  have hk := kids_inv hlt _ 0 dep dep1 rfl (Nat.zero_le _) h.inv (Nat.zero_le _) (by simpa using h1)
  have hkeep := kids_keep _ 0 dep dep1 rfl h.inv.len (by simpa using h1)
  refine ⟨⟨hk.len, ?_, ?_, ?_, hk.p4, ?_⟩, ?_, ?_⟩
  · intro a b hd hl; exact hk.p1 a b (by unfold Dn at *; by_cases e : a = i; subst e; exact .inr ⟨rfl, hl⟩; omega) hl
  · intro c hc; obtain ⟨a, b, h1, h2, h3⟩ := hk.p2 c hc; exact ⟨a, b, by unfold Dn at *; omega, h2, h3⟩
  · intro a b a' b' hd hl hd' hl' he
    exact hk.p3 a b a' b' (by unfold Dn at *; by_cases e : a = i; subst e; exact .inr ⟨rfl, hl⟩; omega) hl (by unfold Dn at *; by_cases e : a' = i; subst e; exact .inr ⟨rfl, hl'⟩; omega) hl' he
  · intro a b hd hl; exact hk.p5 a b (by unfold Dn at *; by_cases e : a = i; subst e; exact .inr ⟨rfl, hl⟩; omega) hl
  · intro c hc1 hc2
    rw [hkeep c (by omega)]
    by_cases e : c = i
    · subst e
      have := h.inv.p4 c
      simp only [rd, Int.toNat_natCast] at hc
      omega
    · exact h.pos c hc1 (by omega)
  · intro a ha
    by_cases e : a = i
    · subst e
      by_cases h1 : -100 ≤ Go.Proofs.Ytdiljpnfochndaa.HP.wor l a ∧ Go.Proofs.Ytdiljpnfochndaa.HP.wor l a ≤ 100
      · refine ⟨h1.1, h1.2, fun hp => ?_⟩
        by_cases h2 : Go.Proofs.Ytdiljpnfochndaa.HP.wor l a = 0
        · exact h2
        · exact absurd (.inr (.inr ⟨hp, h2⟩)) hc
      · exact absurd (.inr (.inl h1)) hc
    · exact h.wor a (by omega)
theorem nodes_go {l : List Nd} (hT : TK l) (d : Nat) : ∀ (i : Nat) (dep : List Int), l.length - i = d → i ≤ l.length → NInv l i dep → ∃ dep', nodesStep l.length i (l.drop i) dep = some dep' := by
  induction d with
  | zero =>
    intro i dep hd hi h
    rw [List.drop_eq_nil_of_le (by omega)]
    exact ⟨dep, rfl⟩
  | succ d ih =>
    intro i dep hd hi h
    have hlt : i < l.length := by omega
    rw [nodes_at _ _ _ _ hlt]
    have hw := hT.wor i hlt
    have hc : ¬ ((0 < (i : Int) ∧ rd dep i = 0) ∨ ¬ (-100 ≤ wor l i ∧ wor l i ≤ 100) ∨ (0 < (kid l i).length ∧ wor l i ≠ 0)) := by
      rintro (⟨h1, h2⟩ | h1 | ⟨h1, h2⟩)
      · obtain ⟨a, b, ha, hb, he⟩ := hT.cov i (by omega) hlt
        have hk := hT.kin a b ha hb
        have := h.inv.p1 a b (by unfold Dn; omega) hb
        rw [he] at this
        have h4 := h.inv.p4 a
        have h5 := this.2.2
        simp only [rd, Int.toNat_natCast] at h5 h2
        omega
      · exact h1 ⟨hw.1, hw.2.1⟩
      · exact h2 (hw.2.2 h1)
    rw [if_neg hc]
    obtain ⟨dep1, h1⟩ := kids_go hT hlt _ 0 dep rfl (Nat.zero_le _) h.inv (Nat.zero_le _)
    rw [List.drop_zero] at h1
    rw [h1]
    exact ih (i + 1) dep1 (by omega) (by omega) (node_step hlt h hc h1)
theorem cnt_all {dep : List Int} (h0 : dep.getD 0 0 ≤ 0) (h : ∀ c : Nat, 1 ≤ c → c < dep.length → 0 < dep.getD c 0) (hl : 1 ≤ dep.length) : 1 + cnt dep = dep.length := by
  cases dep with
  | nil => simp at hl
  | cons a r =>
    simp only [List.getD_cons_zero] at h0
    have : r.countP (fun x => decide (0 < x)) = r.length := by
      rw [List.countP_eq_length]
      intro x hx
      obtain ⟨i, hi, rfl⟩ := List.mem_iff_getElem.1 hx
      have := h (i + 1) (by omega) (by simp; omega)
      simp only [List.getD_cons_succ] at this
      rw [List.getD_eq_getElem?_getD, List.getElem?_eq_getElem hi] at this
      simpa using this
    simp only [cnt, List.countP_cons, this, List.length_cons]
    rw [if_neg (by simpa using h0)]
    omega
theorem TK.game {l : List Nd} (hT : TK l) : ∃ dep, gameOf l = some dep := by
  have hz : ∀ c : Nat, (List.replicate l.length (0 : Int)).getD c 0 = 0 := by
    intro c; rw [List.getD_eq_getElem?_getD, List.getElem?_replicate]; split <;> rfl
  have hI : NInv l 0 (List.replicate l.length 0) := ⟨⟨by simp, fun a b hd => by unfold Dn at hd; omega, fun c hc => by rw [hz] at hc; omega, fun a b a' b' hd => by unfold Dn at hd; omega, fun c => by rw [hz]; omega, fun a b hd => by unfold Dn at hd; omega⟩, fun c h1 h2 => by omega, fun a ha => by omega⟩
  obtain ⟨dep, hd⟩ := nodes_go hT _ 0 _ rfl (Nat.zero_le _) hI
  have hE := nodes_inv _ 0 _ dep rfl (Nat.zero_le _) hI hd
  rw [List.drop_zero] at hd
  refine ⟨dep, ?_⟩
  unfold gameOf
  rw [if_pos ⟨hT.n1, hT.n60⟩]
  have hd' : nodesStep (l.length : Int) 0 l (List.replicate l.length 0) = some dep := hd
  rw [hd', Option.bind_some, if_pos]
  rw [← hE.inv.len]
  exact cnt_all (by have := hE.inv.p4 0; omega) (fun c h1 h2 => hE.pos c h1 (by rw [← hE.inv.len]; exact h2)) (by rw [hE.inv.len]; exact hT.n1)
end Go.Proofs.Ytdiljpnfochndaa.HP
/- The trees that the statements make. -/
namespace Go.Proofs.Ytdiljpnfochndaa.HP
def modM (x n : Int) : Int := (x % 18446744073709551616) % n
theorem modM_bd (x : Int) {n : Int} (h : 0 < n) : 0 ≤ modM x n ∧ modM x n < n := ⟨Int.emod_nonneg _ (by omega), Int.emod_lt_of_pos _ h⟩
def addKid (c : List (List Int)) (p : Nat) : List (List Int) := (c ++ [[]]).set p (c.getD p [] ++ [(c.length : Int)])
def chM (ps : List Int) : Nat → List (List Int)
  | 0 => [[]]
  | i + 1 => addKid (chM ps i) (modM (ps.getD i 0) (i + 1)).toNat
theorem chM_len (ps : List Int) : ∀ i, (chM ps i).length = i + 1
  | 0 => rfl
  | i + 1 => by simp [chM, addKid, chM_len ps i]
def kk (c : List (List Int)) (a b : Nat) : Int := (c.getD a []).getD b 0
structure CI (c : List (List Int)) : Prop where
  kin : ∀ a b : Nat, a < c.length → b < (c.getD a []).length → (a : Int) < kk c a b ∧ kk c a b < c.length
  inj : ∀ a b a' b' : Nat, a < c.length → b < (c.getD a []).length → a' < c.length → b' < (c.getD a' []).length → kk c a b = kk c a' b' → a = a' ∧ b = b'
  cov : ∀ x : Nat, 1 ≤ x → x < c.length → ∃ a b : Nat, a < c.length ∧ b < (c.getD a []).length ∧ kk c a b = x
theorem addKid_len (c : List (List Int)) (p : Nat) : (addKid c p).length = c.length + 1 := by simp [addKid]
theorem addKid_p {c : List (List Int)} {p : Nat} (hp : p < c.length) : (addKid c p).getD p [] = c.getD p [] ++ [(c.length : Int)] := by
  rw [addKid, List.getD_eq_getElem?_getD, List.getElem?_set_self (by simp; omega)]
  rfl
theorem addKid_ne {c : List (List Int)} {p a : Nat} (h : a ≠ p) (ha : a < c.length) : (addKid c p).getD a [] = c.getD a [] := by
  rw [addKid, List.getD_eq_getElem?_getD, List.getElem?_set_ne (Ne.symm h), List.getElem?_append_left ha, ← List.getD_eq_getElem?_getD]
theorem addKid_new {c : List (List Int)} {p : Nat} (hp : p < c.length) : (addKid c p).getD c.length [] = [] := by
  rw [addKid, List.getD_eq_getElem?_getD, List.getElem?_set_ne (by omega), List.getElem?_append_right (Nat.le_refl _)]
  simp
theorem snoc_getD {xs : List Int} {z : Int} {b : Nat} (h : b < (xs ++ [z]).length) : (xs ++ [z]).getD b 0 = if b < xs.length then xs.getD b 0 else z := by
  split
  · rename_i hb
    rw [List.getD_eq_getElem?_getD, List.getElem?_append_left hb, ← List.getD_eq_getElem?_getD]
  · rename_i hb
    have : b = xs.length := by simp at h; omega
    subst this
    simp [List.getD_eq_getElem?_getD]
/-- Where a child stands. -/
theorem addKid_at {c : List (List Int)} {p a b : Nat} (hp : p < c.length) (ha : a < (addKid c p).length) (hb : b < ((addKid c p).getD a []).length) :
    (a < c.length ∧ b < (c.getD a []).length ∧ kk (addKid c p) a b = kk c a b) ∨ (a = p ∧ b = (c.getD p []).length ∧ kk (addKid c p) a b = c.length) := by
  rw [addKid_len] at ha
  by_cases e : a = p
  · subst e
    unfold kk
    rw [addKid_p hp] at hb ⊢
    have := snoc_getD hb
    split at this
    · rename_i hl; exact .inl ⟨hp, hl, this⟩
    · rename_i hl; exact .inr ⟨rfl, by rw [List.length_append, List.length_singleton] at hb; omega, this⟩
  · by_cases e2 : a = c.length
    · subst e2
      rw [addKid_new hp] at hb
      simp at hb
    · have ha' : a < c.length := by omega
      unfold kk
      rw [addKid_ne e ha'] at hb ⊢
      exact .inl ⟨ha', hb, rfl⟩
theorem CI.add {c : List (List Int)} (h : CI c) {p : Nat} (hp : p < c.length) : CI (addKid c p) := by
  refine ⟨fun a b ha hb => ?_, fun a b a' b' ha hb ha' hb' he => ?_, fun x h1 h2 => ?_⟩
  · rw [addKid_len]
    rcases addKid_at hp ha hb with ⟨h1, h2, h3⟩ | ⟨h1, h2, h3⟩
    · have := h.kin a b h1 h2
      rw [h3]
      omega
    · rw [h3]; omega
  · rcases addKid_at hp ha hb with ⟨h1, h2, h3⟩ | ⟨h1, h2, h3⟩ <;> rcases addKid_at hp ha' hb' with ⟨q1, q2, q3⟩ | ⟨q1, q2, q3⟩
    · rw [h3, q3] at he; exact h.inj a b a' b' h1 h2 q1 q2 he
    · rw [h3, q3] at he; have := h.kin a b h1 h2; omega
    · rw [h3, q3] at he; have := h.kin a' b' q1 q2; omega
    · exact ⟨by omega, by omega⟩
  · rw [addKid_len] at h2
    by_cases e : x = c.length
    · subst e
      refine ⟨p, (c.getD p []).length, by rw [addKid_len]; omega, by rw [addKid_p hp]; simp, ?_⟩
      unfold kk
      rw [addKid_p hp]
      simp [List.getD_eq_getElem?_getD]
    · obtain ⟨a, b, ha, hb, hk⟩ := h.cov x h1 (by omega)
      refine ⟨a, b, by rw [addKid_len]; omega, ?_, ?_⟩
      · by_cases e : a = p
        · subst e; rw [addKid_p hp, List.length_append, List.length_singleton]; omega
        · rw [addKid_ne e ha]; exact hb
      · unfold kk at hk ⊢
        by_cases e : a = p
        · subst e
          rw [addKid_p hp, snoc_getD (by rw [List.length_append, List.length_singleton]; omega), if_pos hb]
          exact hk
        · rw [addKid_ne e ha]; exact hk
theorem chM_CI (ps : List Int) : ∀ i, CI (chM ps i)
  | 0 => ⟨fun a b ha hb => by
      have : a = 0 := by simp [chM] at ha; omega
      subst this
      simp [chM] at hb, fun a b a' b' ha hb => by
      have : a = 0 := by simp [chM] at ha; omega
      subst this
      simp [chM] at hb, fun x h1 h2 => by simp [chM] at h2; omega⟩
  | i + 1 => (chM_CI ps i).add (by
      have := modM_bd (ps.getD i 0) (n := (i : Int) + 1) (by omega)
      rw [chM_len]
      omega)
def rounds (ps : List Int) (most : Nat) : Nat := min (most - 1) ps.length
def tameN (ps ws : List Int) (c : List (List Int)) (i : Nat) : Nd := (c.getD i [], if (c.getD i []).length = 0 ∧ i < ws.length then modM (ws.getD i 0) 201 - 100 else 0)
def tameM (ps ws : List Int) (most : Nat) : List Nd := (List.range (rounds ps most + 1)).map (tameN ps ws (chM ps (rounds ps most)))
theorem tameM_len (ps ws : List Int) (most : Nat) : (tameM ps ws most).length = rounds ps most + 1 := by simp [tameM]
theorem tameM_at {ps ws : List Int} {most i : Nat} (h : i < rounds ps most + 1) : (tameM ps ws most).getD i ([], 0) = tameN ps ws (chM ps (rounds ps most)) i := by
  simp [tameM, List.getD_eq_getElem?_getD, h]
theorem tame_kid {ps ws : List Int} {most i : Nat} (h : i < rounds ps most + 1) : kid (tameM ps ws most) i = (chM ps (rounds ps most)).getD i [] := by
  unfold kid
  rw [Int.toNat_natCast, tameM_at h]
  rfl
theorem tame_TK {ps ws : List Int} {most : Nat} (h0 : 1 ≤ most) (hm : most ≤ 60) : TK (tameM ps ws most) := by
  have hci := chM_CI ps (rounds ps most)
  have hl := chM_len ps (rounds ps most)
  have hr : rounds ps most + 1 ≤ 60 := by unfold rounds; omega
  refine ⟨by rw [tameM_len]; omega, by rw [tameM_len]; omega, fun a b ha hb => ?_, fun a b a' b' ha hb ha' hb' he => ?_, fun c h1 h2 => ?_, fun a ha => ?_⟩
  · rw [tameM_len] at ha ⊢
    rw [tame_kid ha] at hb
    have := hci.kin a b (by omega) hb
    unfold k_
    rw [tame_kid ha]
    unfold kk at this
    rw [hl] at this
    exact this
  · rw [tameM_len] at ha ha'
    rw [tame_kid ha] at hb
    rw [tame_kid ha'] at hb'
    unfold k_ at he
    rw [tame_kid ha, tame_kid ha'] at he
    exact hci.inj a b a' b' (by omega) hb (by omega) hb' he
  · rw [tameM_len] at h2
    obtain ⟨a, b, ha, hb, he⟩ := hci.cov c h1 (by omega)
    have ha' : a < rounds ps most + 1 := by omega
    refine ⟨a, b, by rw [tameM_len]; omega, by rw [tame_kid ha']; exact hb, ?_⟩
    unfold k_
    rw [tame_kid ha']
    exact he
  · rw [tameM_len] at ha
    rw [tame_kid ha]
    have hw : wor (tameM ps ws most) a = (tameN ps ws (chM ps (rounds ps most)) a).2 := by unfold wor; rw [Int.toNat_natCast, tameM_at ha]
    rw [hw]
    simp only [tameN]
    have := modM_bd (ws.getD a 0) (n := 201) (by omega)
    split
    · exact ⟨by omega, by omega, fun h => by omega⟩
    · exact ⟨by omega, by omega, fun _ => rfl⟩
end Go.Proofs.Ytdiljpnfochndaa.HP
/- Values: more for the leaves is not less for the root. -/
namespace Go.Proofs.Ytdiljpnfochndaa.HP
theorem foldl_mono {f : Int → Int → Int} (hf : ∀ a b c d, a ≤ b → c ≤ d → f a c ≤ f b d) : ∀ (cs : List Int) (g h : Int → Int) (a b : Int), a ≤ b → (∀ c ∈ cs, g c ≤ h c) → (cs.map g).foldl f a ≤ (cs.map h).foldl f b
  | [], _, _, _, _, hab, _ => hab
  | c :: r, g, h, a, b, hab, hc => foldl_mono hf r g h _ _ (hf _ _ _ _ hab (hc c (by simp))) fun x hx => hc x (by simp [hx])
theorem maxL_mono (cs : List Int) (g h : Int → Int) (hc : ∀ c ∈ cs, g c ≤ h c) : maxL (cs.map g) ≤ maxL (cs.map h) := by
  cases cs with
  | nil => simp [maxL]
  | cons c r => exact foldl_mono (fun a b c d h1 h2 => by omega) r g h _ _ (hc c (by simp)) fun x hx => hc x (by simp [hx])
theorem minL_mono (cs : List Int) (g h : Int → Int) (hc : ∀ c ∈ cs, g c ≤ h c) : minL (cs.map g) ≤ minL (cs.map h) := by
  cases cs with
  | nil => simp [minL]
  | cons c r => exact foldl_mono (fun a b c d h1 h2 => by omega) r g h _ _ (hc c (by simp)) fun x hx => hc x (by simp [hx])
theorem val_mono {l : List Nd} {dep : List Int} (hT : TF l dep) {f g : Int → Int} {vs us : List Int} (hv : ValP l dep f vs) (hu : ValP l dep g us) (h : ∀ i : Nat, i < l.length → leafB l i = true → f i ≤ g i) : ∀ j : Nat, j < l.length → vs.getD j 0 ≤ us.getD j 0 := by
  have key : ∀ d j : Nat, l.length - j = d → j < l.length → vs.getD j 0 ≤ us.getD j 0 := by
    intro d
    induction d using Nat.strongRecOn with
    | _ d ih =>
      intro j hd hj
      have hk : ∀ c ∈ kid l j, rd vs c ≤ rd us c := fun c hc => by
        obtain ⟨h1, h2⟩ := mem_kid hT hj hc
        exact ih (l.length - c.toNat) (by omega) c.toNat rfl (by omega)
      rw [hv.at_ j hj, hu.at_ j hj]
      unfold NV
      split
      · rename_i hl; exact h j hj hl
      · split
        · exact maxL_mono _ _ _ hk
        · exact minL_mono _ _ _ hk
  exact fun j hj => key _ j rfl hj
end Go.Proofs.Ytdiljpnfochndaa.HP
/- Efforts of two players with the same known leaves. -/
namespace Go.Proofs.Ytdiljpnfochndaa.HP
/-- What the efforts of one side are, at all nodes: in bounds; and small unless far. -/
theorem need_all {l : List Nd} {dep : List Int} {mx : Bool} {lf : Int → Int} {es : List Ef} (hT : TF l dep) (hN : NeedP l dep mx lf es) {Q : Nat → Prop}
    (h : ∀ j : Nat, j < l.length → (∀ c ∈ kid l j, ∃ i : Nat, c = i ∧ i < l.length ∧ Q i) → Q j) : ∀ j : Nat, j < l.length → Q j := by
  have key : ∀ d j : Nat, l.length - j = d → j < l.length → Q j := by
    intro d
    induction d using Nat.strongRecOn with
    | _ d ih =>
      intro j hd hj
      refine h j hj fun c hc => ?_
      obtain ⟨h1, h2⟩ := mem_kid hT hj hc
      exact ⟨c.toNat, by omega, by omega, ih (l.length - c.toNat) (by omega) c.toNat rfl (by omega)⟩
  exact fun j hj => key _ j rfl hj
theorem ed_nat (es : List Ef) (i : Nat) : ed es (i : Int) = es.getD i (0, []) := rfl
theorem pick_le {es : List Ef} : ∀ (cs : List Int) (a : Ef), (cs.foldl (pickF es) a).1 ≤ a.1 ∧ (∀ c ∈ cs, (cs.foldl (pickF es) a).1 ≤ (ed es c).1) ∧ (cs.foldl (pickF es) a = a ∨ ∃ c ∈ cs, cs.foldl (pickF es) a = ed es c)
  | [], a => ⟨Int.le_refl _, by simp, .inl rfl⟩
  | c :: r, a => by
    obtain ⟨h1, h2, h3⟩ := pick_le r (pickF es a c)
    have hp : (pickF es a c).1 ≤ a.1 ∧ (pickF es a c).1 ≤ (ed es c).1 ∧ (pickF es a c = a ∨ pickF es a c = ed es c) := by
      unfold pickF
      split
      · exact ⟨by omega, Int.le_refl _, .inr rfl⟩
      · exact ⟨Int.le_refl _, by omega, .inl rfl⟩
    refine ⟨Int.le_trans h1 hp.1, fun x hx => ?_, ?_⟩
    · rcases List.mem_cons.1 hx with rfl | hx
      · exact Int.le_trans h1 hp.2.1
      · exact h2 x hx
    · rcases h3 with h3 | ⟨x, hx, h3⟩
      · rcases hp.2.2 with e | e
        · exact .inl (by rw [List.foldl_cons, h3, e])
        · exact .inr ⟨c, by simp, by rw [List.foldl_cons, h3, e]⟩
      · exact .inr ⟨x, by simp [hx], by rw [List.foldl_cons, h3]⟩
/-- The sum, capped. -/
theorem join_sum {es : List Ef} : ∀ (cs : List Int) (a : Ef), 0 ≤ a.1 → a.1 ≤ far → (∀ c ∈ cs, 0 ≤ (ed es c).1 ∧ (ed es c).1 ≤ far) →
    a.1 ≤ (cs.foldl (joinF es) a).1 ∧ (∀ c ∈ cs, (ed es c).1 ≤ (cs.foldl (joinF es) a).1) ∧ ((cs.foldl (joinF es) a).1 = 0 ↔ a.1 = 0 ∧ ∀ c ∈ cs, (ed es c).1 = 0)
  | [], a, _, _, _ => ⟨Int.le_refl _, by simp, by simp⟩
  | c :: r, a, h0, h1, hc => by
    have hcb := hc c (by simp)
    have hj : (joinF es a c).1 = min far (a.1 + (ed es c).1) := rfl
    obtain ⟨q1, q2, q3⟩ := join_sum r (joinF es a c) (by rw [hj]; omega) (by rw [hj]; omega) fun x hx => hc x (by simp [hx])
    refine ⟨?_, fun x hx => ?_, ?_⟩
    · rw [List.foldl_cons]; rw [hj] at q1; omega
    · rw [List.foldl_cons]
      rcases List.mem_cons.1 hx with rfl | hx
      · rw [hj] at q1; omega
      · exact q2 x hx
    · rw [List.foldl_cons, q3, hj]
      constructor
      · rintro ⟨e1, e2⟩
        refine ⟨by simp only [far] at *; omega, fun x hx => ?_⟩
        rcases List.mem_cons.1 hx with rfl | hx
        · simp only [far] at *; omega
        · exact e2 x hx
      · rintro ⟨e1, e2⟩
        have := e2 c (by simp)
        exact ⟨by simp only [far]; omega, fun x hx => e2 x (by simp [hx])⟩
/-- Small efforts do not reach the cap. -/
theorem join_small {es : List Ef} : ∀ (cs : List Int) (a : Ef), 0 ≤ a.1 → a.1 ≤ a.2.length → (∀ c ∈ cs, 0 ≤ (ed es c).1 ∧ (ed es c).1 ≤ (ed es c).2.length) → (cs.foldl (joinF es) a).1 ≤ (cs.foldl (joinF es) a).2.length
  | [], a, _, h, _ => h
  | c :: r, a, h0, h, hc => by
    have hcb := hc c (by simp)
    refine join_small r (joinF es a c) (by simp only [joinF, far]; omega) ?_ fun x hx => hc x (by simp [hx])
    simp only [joinF, List.length_append]
    omega
structure Small (l : List Nd) (e : Ef) : Prop where
  lo : 0 ≤ e.1
  hi : e.1 ≤ far
  sm : e.1 < far → e.1 ≤ e.2.length
theorem need_small {l : List Nd} {dep : List Int} {mx : Bool} {lf : Int → Int} {es : List Ef} (hT : TF l dep) (hN : NeedP l dep mx lf es) (h : ∀ i : Nat, leafB l i = true → lf i = 0 ∨ lf i = 1 ∨ lf i = far) :
    ∀ j : Nat, j < l.length → GoodE l j (es.getD j (0, [])).2 ∧ Small l (es.getD j (0, [])) := by
  refine need_all hT hN (Q := fun j => GoodE l j (es.getD j (0, [])).2 ∧ Small l (es.getD j (0, []))) fun j hj hk => ?_
  have hk' : ∀ c ∈ kid l j, GoodE l c (ed es c).2 ∧ Small l (ed es c) := fun c hc => by obtain ⟨i, rfl, _, h⟩ := hk c hc; exact h
  rw [hN.at_ j hj]
  refine ⟨NE_good hT hj fun c hc => (hk' c hc).1, ?_⟩
  have hbd := NE_bd (mx := mx) (dep := dep) (lf := lf) (es := es) (j := j) (fun hl => by rcases h j hl with e | e | e <;> rw [e] <;> decide) fun c hc => ⟨(hk' c hc).2.lo, (hk' c hc).2.hi⟩
  refine ⟨hbd.1, hbd.2, ?_⟩
  unfold NE
  split
  · rename_i hl
    intro hlt
    rcases h j hl with e | e | e <;> simp only [e] at hlt ⊢ <;> simp at hlt ⊢
  · split
    · intro hlt
      obtain ⟨_, _, h3⟩ := pick_le (es := es) (kid l j) (far, [])
      rcases h3 with h3 | ⟨c, hc, h3⟩
      · rw [h3] at hlt; simp at hlt
      · rw [h3] at hlt ⊢; exact (hk' c hc).2.sm hlt
    · intro hlt
      obtain ⟨_, h2, _⟩ := join_sum (es := es) (kid l j) (0, []) (by decide) (by decide) fun c hc => ⟨(hk' c hc).2.lo, (hk' c hc).2.hi⟩
      exact join_small (kid l j) (0, []) (by decide) (by simp) fun c hc => ⟨(hk' c hc).2.lo, (hk' c hc).2.sm (Int.lt_of_le_of_lt (h2 c hc) hlt)⟩
theorem small60 {l : List Nd} {dep : List Int} (hT : TF l dep) {j : Int} {e : Ef} (hg : GoodE l j e.2) (hs : Small l e) (h : e.1 < far) : e.1 ≤ 60 := by
  have := hs.sm h
  have := hg.len
  have := hT.n60
  omega
theorem pickZ {es : List Ef} {cs : List Int} (h : ∀ c ∈ cs, 0 ≤ (ed es c).1) : (cs.foldl (pickF es) (far, [])).1 = 0 ↔ ∃ c ∈ cs, (ed es c).1 = 0 := by
  obtain ⟨h1, h2, h3⟩ := pick_le (es := es) cs (far, [])
  constructor
  · intro e
    rcases h3 with h3 | ⟨c, hc, h3⟩
    · rw [h3] at e; simp [far] at e
    · exact ⟨c, hc, by rw [← h3]; exact e⟩
  · rintro ⟨c, hc, e⟩
    have := h2 c hc
    rcases h3 with h3 | ⟨x, hx, h3⟩
    · rw [h3, e] at this; simp [far] at this
    · have q := h x hx; rw [← h3] at q; omega
theorem pickFar {es : List Ef} {cs : List Int} (h : ∀ c ∈ cs, (ed es c).1 ≤ far) : (cs.foldl (pickF es) (far, [])).1 = far ↔ ∀ c ∈ cs, (ed es c).1 = far := by
  obtain ⟨h1, h2, h3⟩ := pick_le (es := es) cs (far, [])
  constructor
  · intro e c hc
    have := h2 c hc
    have := h c hc
    omega
  · intro e
    rcases h3 with h3 | ⟨x, hx, h3⟩
    · rw [h3]
    · rw [h3]; exact e x hx
theorem joinFar {l : List Nd} {dep : List Int} (hT : TF l dep) {es : List Ef} {j : Nat} (hj : j < l.length) (h : ∀ c ∈ kid l j, GoodE l c (ed es c).2 ∧ Small l (ed es c)) : ((kid l j).foldl (joinF es) (0, [])).1 = far ↔ ∃ c ∈ kid l j, (ed es c).1 = far := by
  obtain ⟨h1, h2, h3⟩ := join_sum (es := es) (kid l j) (0, []) (by decide) (by decide) fun c hc => ⟨(h c hc).2.lo, (h c hc).2.hi⟩
  have hbd : ((kid l j).foldl (joinF es) (0, [])).1 ≤ far := by
    have : ∀ (cs : List Int) (a : Ef), a.1 ≤ far → (cs.foldl (joinF es) a).1 ≤ far := by
      intro cs
      induction cs with
      | nil => intro a ha; exact ha
      | cons c r ih => intro a ha; exact ih _ (by simp only [joinF]; omega)
    exact this _ _ (by decide)
  constructor
  · intro e
    by_cases hx : ∃ c ∈ kid l j, (ed es c).1 = far
    · exact hx
    · exfalso
      have hs := join_small (es := es) (kid l j) (0, []) (by decide) (by simp) fun c hc => ⟨(h c hc).2.lo, (h c hc).2.sm (by
        have := (h c hc).2.hi
        have : (ed es c).1 ≠ far := fun e => hx ⟨c, hc, e⟩
        omega)⟩
      have hg := (good_join hT hj (fun c hc => (h c hc).1) (kid l j).length (Nat.le_refl _)).1.len
      rw [List.take_length] at hg
      have := hT.n60
      rw [e] at hs
      simp only [far] at hs
      omega
  · rintro ⟨c, hc, e⟩
    have := h2 c hc
    omega
theorem joinZ {es : List Ef} {cs : List Int} (h : ∀ c ∈ cs, 0 ≤ (ed es c).1 ∧ (ed es c).1 ≤ far) : (cs.foldl (joinF es) (0, [])).1 = 0 ↔ ∀ c ∈ cs, (ed es c).1 = 0 := by
  obtain ⟨_, _, h3⟩ := join_sum (es := es) cs (0, []) (by decide) (by decide) h
  rw [h3]
  simp
theorem dual {l : List Nd} {dep : List Int} {tf ff : Int → Int} {es fs : List Ef} (hT : TF l dep) (hE : NeedP l dep true tf es) (hF : NeedP l dep false ff fs) (ht : ∀ i : Nat, leafB l i = true → tf i = 0 ∨ tf i = 1 ∨ tf i = far) (hf : ∀ i : Nat, leafB l i = true → ff i = 0 ∨ ff i = 1 ∨ ff i = far)
    (h : ∀ i : Nat, i < l.length → leafB l i = true → (tf i = 0 ↔ ff i = far) ∧ (ff i = 0 ↔ tf i = far)) : ∀ j : Nat, j < l.length → ((es.getD j (0, [])).1 = 0 ↔ (fs.getD j (0, [])).1 = far) ∧ ((fs.getD j (0, [])).1 = 0 ↔ (es.getD j (0, [])).1 = far) := by
  have sE := need_small hT hE ht
  have sF := need_small hT hF hf
  refine need_all hT hE (Q := fun j => ((es.getD j (0, [])).1 = 0 ↔ (fs.getD j (0, [])).1 = far) ∧ ((fs.getD j (0, [])).1 = 0 ↔ (es.getD j (0, [])).1 = far)) fun j hj hk => ?_
  have kE : ∀ c ∈ kid l j, GoodE l c (ed es c).2 ∧ Small l (ed es c) := fun c hc => by obtain ⟨i, rfl, hi, _⟩ := hk c hc; exact sE i hi
  have kF : ∀ c ∈ kid l j, GoodE l c (ed fs c).2 ∧ Small l (ed fs c) := fun c hc => by obtain ⟨i, rfl, hi, _⟩ := hk c hc; exact sF i hi
  have kD : ∀ c ∈ kid l j, ((ed es c).1 = 0 ↔ (ed fs c).1 = far) ∧ ((ed fs c).1 = 0 ↔ (ed es c).1 = far) := fun c hc => by obtain ⟨i, rfl, hi, h⟩ := hk c hc; exact h
  rw [hE.at_ j hj, hF.at_ j hj]
  unfold NE
  by_cases hl : leafB l j = true
  · rw [if_pos hl, if_pos hl]; exact h j hj hl
  · rw [if_neg hl, if_neg hl]
    by_cases he : evB dep j = true
    · rw [if_pos (by rw [he]; rfl), if_neg (by rw [he]; simp), pickZ fun c hc => (kE c hc).2.lo, pickFar fun c hc => (kE c hc).2.hi, joinFar hT hj kF, joinZ fun c hc => ⟨(kF c hc).2.lo, (kF c hc).2.hi⟩]
      exact ⟨⟨fun ⟨c, hc, e⟩ => ⟨c, hc, (kD c hc).1.1 e⟩, fun ⟨c, hc, e⟩ => ⟨c, hc, (kD c hc).1.2 e⟩⟩, ⟨fun e c hc => (kD c hc).2.1 (e c hc), fun e c hc => (kD c hc).2.2 (e c hc)⟩⟩
    · have he' : evB dep j = false := by simpa using he
      rw [if_neg (by rw [he']; simp), if_pos (by rw [he']; rfl), pickZ fun c hc => (kF c hc).2.lo, pickFar fun c hc => (kF c hc).2.hi, joinFar hT hj kE, joinZ fun c hc => ⟨(kE c hc).2.lo, (kE c hc).2.hi⟩]
      exact ⟨⟨fun e c hc => (kD c hc).1.1 (e c hc), fun e c hc => (kD c hc).1.2 (e c hc)⟩, ⟨fun ⟨c, hc, e⟩ => ⟨c, hc, (kD c hc).2.1 e⟩, fun ⟨c, hc, e⟩ => ⟨c, hc, (kD c hc).2.2 e⟩⟩⟩
theorem maxL_ge {cs : List Int} {g : Int → Int} {b : Int} (h0 : cs ≠ []) : b ≤ maxL (cs.map g) ↔ ∃ c ∈ cs, b ≤ g c := by
  cases cs with
  | nil => exact absurd rfl h0
  | cons c r =>
    have : ∀ (r : List Int) (a : Int), b ≤ (r.map g).foldl max a ↔ b ≤ a ∨ ∃ c ∈ r, b ≤ g c := by
      intro r
      induction r with
      | nil => intro a; simp
      | cons x r ih =>
        intro a
        have hm : b ≤ max a (g x) ↔ b ≤ a ∨ b ≤ g x := by omega
        rw [List.map_cons, List.foldl_cons, ih, hm, or_assoc]
        simp only [List.mem_cons, exists_eq_or_imp]
    simp only [maxL, List.map_cons]
    rw [this]
    simp
theorem minL_ge {cs : List Int} {g : Int → Int} {b : Int} (h0 : cs ≠ []) : b ≤ minL (cs.map g) ↔ ∀ c ∈ cs, b ≤ g c := by
  cases cs with
  | nil => exact absurd rfl h0
  | cons c r =>
    have : ∀ (r : List Int) (a : Int), b ≤ (r.map g).foldl min a ↔ b ≤ a ∧ ∀ c ∈ r, b ≤ g c := by
      intro r
      induction r with
      | nil => intro a; simp
      | cons x r ih =>
        intro a
        have hm : b ≤ min a (g x) ↔ b ≤ a ∧ b ≤ g x := by omega
        rw [List.map_cons, List.foldl_cons, ih, hm, and_assoc]
        simp only [List.mem_cons, forall_eq_or_imp]
    simp only [minL, List.map_cons]
    rw [this]
    simp
/-- No effort is needed exactly where the value suffices. -/
theorem zero_iff {l : List Nd} {dep : List Int} {tf wf : Int → Int} {es : List Ef} {vs : List Int} {b : Int} (hT : TF l dep) (hE : NeedP l dep true tf es) (hv : ValP l dep wf vs) (ht : ∀ i : Nat, leafB l i = true → tf i = 0 ∨ tf i = 1 ∨ tf i = far)
    (h : ∀ i : Nat, i < l.length → leafB l i = true → (tf i = 0 ↔ b ≤ wf i)) : ∀ j : Nat, j < l.length → ((es.getD j (0, [])).1 = 0 ↔ b ≤ vs.getD j 0) := by
  have sE := need_small hT hE ht
  refine need_all hT hE (Q := fun j => ((es.getD j (0, [])).1 = 0 ↔ b ≤ vs.getD j 0)) fun j hj hk => ?_
  have kE : ∀ c ∈ kid l j, GoodE l c (ed es c).2 ∧ Small l (ed es c) := fun c hc => by obtain ⟨i, rfl, hi, _⟩ := hk c hc; exact sE i hi
  have kD : ∀ c ∈ kid l j, ((ed es c).1 = 0 ↔ b ≤ rd vs c) := fun c hc => by obtain ⟨i, rfl, hi, h⟩ := hk c hc; exact h
  rw [hE.at_ j hj, hv.at_ j hj]
  unfold NE NV
  by_cases hl : leafB l j = true
  · rw [if_pos hl, if_pos hl]; exact h j hj hl
  · rw [if_neg hl, if_neg hl]
    have hne : kid l j ≠ [] := fun e => hl (by unfold leafB; rw [e]; rfl)
    by_cases he : evB dep j = true
    · rw [if_pos (by rw [he]; rfl), if_pos he, pickZ fun c hc => (kE c hc).2.lo, maxL_ge hne]
      exact ⟨fun ⟨c, hc, e⟩ => ⟨c, hc, (kD c hc).1 e⟩, fun ⟨c, hc, e⟩ => ⟨c, hc, (kD c hc).2 e⟩⟩
    · rw [if_neg (by simpa using he), if_neg he, joinZ fun c hc => ⟨(kE c hc).2.lo, (kE c hc).2.hi⟩, minL_ge hne]
      exact ⟨fun e c hc => (kD c hc).1 (e c hc), fun e c hc => (kD c hc).2 (e c hc)⟩
/-- What holds for the leaves' efforts and goes through least ones and sums. -/
theorem zero_mono {l : List Nd} {dep : List Int} {mx : Bool} {tf tg : Int → Int} {es gs : List Ef} (hT : TF l dep) (hE : NeedP l dep mx tf es) (hG : NeedP l dep mx tg gs) (ht : ∀ i : Nat, leafB l i = true → tf i = 0 ∨ tf i = 1 ∨ tf i = far) (hg : ∀ i : Nat, leafB l i = true → tg i = 0 ∨ tg i = 1 ∨ tg i = far)
    (h : ∀ i : Nat, i < l.length → leafB l i = true → tf i = 0 → tg i = 0) : ∀ j : Nat, j < l.length → (es.getD j (0, [])).1 = 0 → (gs.getD j (0, [])).1 = 0 := by
  have sE := need_small hT hE ht
  have sG := need_small hT hG hg
  refine need_all hT hE (Q := fun j => (es.getD j (0, [])).1 = 0 → (gs.getD j (0, [])).1 = 0) fun j hj hk => ?_
  have kE : ∀ c ∈ kid l j, GoodE l c (ed es c).2 ∧ Small l (ed es c) := fun c hc => by obtain ⟨i, rfl, hi, _⟩ := hk c hc; exact sE i hi
  have kG : ∀ c ∈ kid l j, GoodE l c (ed gs c).2 ∧ Small l (ed gs c) := fun c hc => by obtain ⟨i, rfl, hi, _⟩ := hk c hc; exact sG i hi
  have kD : ∀ c ∈ kid l j, (ed es c).1 = 0 → (ed gs c).1 = 0 := fun c hc => by obtain ⟨i, rfl, hi, h⟩ := hk c hc; exact h
  rw [hE.at_ j hj, hG.at_ j hj]
  unfold NE
  by_cases hl : leafB l j = true
  · rw [if_pos hl, if_pos hl]; exact h j hj hl
  · rw [if_neg hl, if_neg hl]
    by_cases he : (evB dep j == mx) = true
    · rw [if_pos he, if_pos he, pickZ fun c hc => (kE c hc).2.lo, pickZ fun c hc => (kG c hc).2.lo]
      exact fun ⟨c, hc, e⟩ => ⟨c, hc, kD c hc e⟩
    · rw [if_neg he, if_neg he, joinZ fun c hc => ⟨(kE c hc).2.lo, (kE c hc).2.hi⟩, joinZ fun c hc => ⟨(kG c hc).2.lo, (kG c hc).2.hi⟩]
      exact fun e c hc => kD c hc (e c hc)
/-- Where no leaf is free, no node is. -/
theorem zero_none {l : List Nd} {dep : List Int} {mx : Bool} {tf : Int → Int} {es : List Ef} (hT : TF l dep) (hE : NeedP l dep mx tf es) (ht : ∀ i : Nat, leafB l i = true → tf i = 0 ∨ tf i = 1 ∨ tf i = far)
    (h : ∀ i : Nat, i < l.length → leafB l i = true → tf i ≠ 0) : ∀ j : Nat, j < l.length → (es.getD j (0, [])).1 ≠ 0 := by
  have sE := need_small hT hE ht
  refine need_all hT hE (Q := fun j => (es.getD j (0, [])).1 ≠ 0) fun j hj hk => ?_
  have kE : ∀ c ∈ kid l j, GoodE l c (ed es c).2 ∧ Small l (ed es c) := fun c hc => by obtain ⟨i, rfl, hi, _⟩ := hk c hc; exact sE i hi
  have kD : ∀ c ∈ kid l j, (ed es c).1 ≠ 0 := fun c hc => by obtain ⟨i, rfl, hi, h⟩ := hk c hc; exact h
  rw [hE.at_ j hj]
  unfold NE
  by_cases hl : leafB l j = true
  · rw [if_pos hl]; exact h j hj hl
  · rw [if_neg hl]
    have hne : kid l j ≠ [] := fun e => hl (by unfold leafB; rw [e]; rfl)
    by_cases he : (evB dep j == mx) = true
    · rw [if_pos he, ne_eq, pickZ fun c hc => (kE c hc).2.lo]
      exact fun ⟨c, hc, e⟩ => kD c hc e
    · rw [if_neg he, ne_eq, joinZ fun c hc => ⟨(kE c hc).2.lo, (kE c hc).2.hi⟩]
      intro e
      cases hk2 : kid l j with
      | nil => exact hne hk2
      | cons c r => have hm : c ∈ kid l j := by rw [hk2]; simp
                    exact kD c hm (e c hm)
/-- Where every leaf is free or out of reach, so is every node. -/
theorem zero_or_far {l : List Nd} {dep : List Int} {mx : Bool} {tf : Int → Int} {es : List Ef} (hT : TF l dep) (hE : NeedP l dep mx tf es) (ht : ∀ i : Nat, leafB l i = true → tf i = 0 ∨ tf i = 1 ∨ tf i = far)
    (h : ∀ i : Nat, i < l.length → leafB l i = true → tf i = 0 ∨ tf i = far) : ∀ j : Nat, j < l.length → (es.getD j (0, [])).1 = 0 ∨ (es.getD j (0, [])).1 = far := by
  have sE := need_small hT hE ht
  refine need_all hT hE (Q := fun j => (es.getD j (0, [])).1 = 0 ∨ (es.getD j (0, [])).1 = far) fun j hj hk => ?_
  have kE : ∀ c ∈ kid l j, GoodE l c (ed es c).2 ∧ Small l (ed es c) := fun c hc => by obtain ⟨i, rfl, hi, _⟩ := hk c hc; exact sE i hi
  have kD : ∀ c ∈ kid l j, (ed es c).1 = 0 ∨ (ed es c).1 = far := fun c hc => by obtain ⟨i, rfl, hi, h⟩ := hk c hc; exact h
  rw [hE.at_ j hj]
  unfold NE
  by_cases hl : leafB l j = true
  · rw [if_pos hl]; exact h j hj hl
  · rw [if_neg hl]
    by_cases he : (evB dep j == mx) = true
    · rw [if_pos he]
      obtain ⟨_, _, h3⟩ := pick_le (es := es) (kid l j) (far, [])
      rcases h3 with h3 | ⟨c, hc, h3⟩
      · rw [h3]; exact .inr rfl
      · rw [h3]; exact kD c hc
    · rw [if_neg he, joinFar hT hj kE, joinZ fun c hc => ⟨(kE c hc).2.lo, (kE c hc).2.hi⟩]
      by_cases hx : ∃ c ∈ kid l j, (ed es c).1 = far
      · exact .inr hx
      · exact .inl fun c hc => by rcases kD c hc with e | e; exact e; exact absurd ⟨c, hc, e⟩ hx
end Go.Proofs.Ytdiljpnfochndaa.HP
/- The statements about proofs: what is decided, and by how many leaves. -/
namespace Go.Proofs.Ytdiljpnfochndaa.HP
theorem tree_ind {l : List Nd} {dep : List Int} (hT : TF l dep) {Q : Nat → Prop}
    (h : ∀ j : Nat, j < l.length → (∀ c ∈ kid l j, ∃ i : Nat, c = i ∧ i < l.length ∧ Q i) → Q j) : ∀ j : Nat, j < l.length → Q j := by
  have key : ∀ d j : Nat, l.length - j = d → j < l.length → Q j := by
    intro d
    induction d using Nat.strongRecOn with
    | _ d ih =>
      intro j hd hj
      refine h j hj fun c hc => ?_
      obtain ⟨h1, h2⟩ := mem_kid hT hj hc
      exact ⟨c.toNat, by omega, by omega, ih (l.length - c.toNat) (by omega) c.toNat rfl (by omega)⟩
  exact fun j hj => key _ j rfl hj
theorem maxL_le {cs : List Int} {g : Int → Int} {b : Int} (h0 : cs ≠ []) : maxL (cs.map g) ≤ b ↔ ∀ c ∈ cs, g c ≤ b := by
  have := maxL_ge (g := g) (b := b + 1) h0
  constructor
  · intro h c hc
    rcases Int.lt_or_le b (g c) with h1 | h1
    · have := this.2 ⟨c, hc, h1⟩; omega
    · exact h1
  · intro h
    rcases Int.lt_or_le b (maxL (cs.map g)) with h1 | h1
    · obtain ⟨c, hc, h2⟩ := this.1 h1
      have := h c hc
      omega
    · exact h1
theorem minL_le {cs : List Int} {g : Int → Int} {b : Int} (h0 : cs ≠ []) : minL (cs.map g) ≤ b ↔ ∃ c ∈ cs, g c ≤ b := by
  have := minL_ge (g := g) (b := b + 1) h0
  constructor
  · intro h
    by_cases hx : ∃ c ∈ cs, g c ≤ b
    · exact hx
    · have := this.2 fun c hc => by
        rcases Int.lt_or_le b (g c) with h1 | h1
        · exact h1
        · exact absurd ⟨c, hc, h1⟩ hx
      omega
  · rintro ⟨c, hc, h⟩
    rcases Int.lt_or_le b (minL (cs.map g)) with h1 | h1
    · have := this.1 h1 c hc; omega
    · exact h1
theorem leaf_ne {l : List Nd} {j : Int} (h : ¬ leafB l j = true) : kid l j ≠ [] := fun e => h (by unfold leafB; rw [e]; rfl)
theorem val_thr {l : List Nd} {dep : List Int} (hT : TF l dep) {f g : Int → Int} {vs us : List Int} (hv : ValP l dep f vs) (hu : ValP l dep g us) {b c : Int} (h : ∀ i : Nat, i < l.length → leafB l i = true → (b ≤ f i ↔ c ≤ g i)) :
    ∀ j : Nat, j < l.length → (b ≤ vs.getD j 0 ↔ c ≤ us.getD j 0) := by
  refine tree_ind hT (Q := fun j => (b ≤ vs.getD j 0 ↔ c ≤ us.getD j 0)) fun j hj hk => ?_
  have kD : ∀ x ∈ kid l j, (b ≤ rd vs x ↔ c ≤ rd us x) := fun x hx => by obtain ⟨i, rfl, hi, h⟩ := hk x hx; exact h
  rw [hv.at_ j hj, hu.at_ j hj]
  unfold NV
  by_cases hl : leafB l j = true
  · rw [if_pos hl, if_pos hl]; exact h j hj hl
  · have hne := leaf_ne hl
    rw [if_neg hl, if_neg hl]
    by_cases he : evB dep j = true
    · rw [if_pos he, if_pos he, maxL_ge hne, maxL_ge hne]
      exact ⟨fun ⟨x, hx, e⟩ => ⟨x, hx, (kD x hx).1 e⟩, fun ⟨x, hx, e⟩ => ⟨x, hx, (kD x hx).2 e⟩⟩
    · rw [if_neg he, if_neg he, minL_ge hne, minL_ge hne]
      exact ⟨fun e x hx => (kD x hx).1 (e x hx), fun e x hx => (kD x hx).2 (e x hx)⟩
/-! ### The reference's count -/
abbrev farR : Int := 1000000
def sumL : List Int → Int
  | [] => 0
  | x :: r => x + sumL r
def sumC : List Int → Int
  | [] => 0
  | x :: r => r.foldl (fun a n => min farR (n + a)) x
def RN (l : List Nd) (dep : List Int) (mx : Bool) (al : Int → Int) (rs : List Int) (j : Int) : Int :=
  if leafB l j then al j else if evB dep j == mx then minL ((kid l j).map (rd rs)) else sumC ((kid l j).map (rd rs))
structure RNeedP (l : List Nd) (dep : List Int) (mx : Bool) (al : Int → Int) (rs : List Int) : Prop where
  len : rs.length = l.length
  at_ : ∀ j : Nat, j < l.length → rs.getD j 0 = RN l dep mx al rs j
theorem RN_congr {l : List Nd} {dep : List Int} (h : TF l dep) {i : Nat} (hi : i < l.length) {mx : Bool} {al : Int → Int} {vs us : List Int} (he : ∀ j : Nat, i < j → j < l.length → vs.getD j 0 = us.getD j 0) : RN l dep mx al vs i = RN l dep mx al us i := by
  unfold RN
  rw [map_rd_congr h hi he]
theorem rn_set {l : List Nd} {dep : List Int} (h : TF l dep) {mx : Bool} {al : Int → Int} {os : List Int} {q : Nat} (hq : q < l.length) (hol : os.length = l.length) {x : Int} (hx : x = RN l dep mx al os q) (hval : ∀ j : Nat, q + 1 ≤ j → j < l.length → os.getD j 0 = RN l dep mx al os j) :
    ∀ j : Nat, q ≤ j → j < l.length → (os.set q x).getD j 0 = RN l dep mx al (os.set q x) j := by
  intro j h1 h2
  have hc : RN l dep mx al (os.set q x) j = RN l dep mx al os j := RN_congr h h2 fun i hi hil => getD_set_ne (by omega)
  rw [hc]
  by_cases e : q = j
  · subst e; rw [getD_set_eq (by omega)]; exact hx
  · rw [getD_set_ne e]; exact hval j (by omega) h2
theorem sumL_nn : ∀ {xs : List Int}, (∀ x ∈ xs, 0 ≤ x) → 0 ≤ sumL xs
  | [], _ => Int.le_refl _
  | x :: r, h => by have := h x (by simp); have := sumL_nn (xs := r) fun y hy => h y (by simp [hy]); simp only [sumL]; omega
theorem sumL_mem : ∀ {xs : List Int}, (∀ x ∈ xs, 0 ≤ x) → ∀ x ∈ xs, x ≤ sumL xs
  | [], _, x, hx => by simp at hx
  | y :: r, h, x, hx => by
    have h0 := h y (by simp)
    have h1 := sumL_nn (xs := r) fun y hy => h y (by simp [hy])
    simp only [sumL]
    rcases List.mem_cons.1 hx with rfl | hx
    · omega
    · have := sumL_mem (xs := r) (fun y hy => h y (by simp [hy])) x hx; omega
theorem cap_sum (K : Int) (f : Int → Int → Int) (hf : ∀ a n, f a n = min K (a + n)) : ∀ (xs : List Int) (a : Int), a ≤ K → (∀ x ∈ xs, 0 ≤ x) → xs.foldl f a = min K (a + sumL xs)
  | [], a, ha, _ => by simp only [List.foldl_nil, sumL]; omega
  | x :: r, a, ha, h => by
    have h0 := h x (by simp)
    have h1 := sumL_nn (xs := r) fun y hy => h y (by simp [hy])
    rw [List.foldl_cons, cap_sum K f hf r _ (by rw [hf]; omega) (fun y hy => h y (by simp [hy])), hf]
    simp only [sumL]
    omega
theorem sumC_eq {xs : List Int} (h : ∀ x ∈ xs, 0 ≤ x ∧ x ≤ farR) : sumC xs = min farR (sumL xs) := by
  cases xs with
  | nil => rfl
  | cons x r =>
    have h0 := h x (by simp)
    simp only [sumC, sumL]
    rw [cap_sum farR _ (fun a n => by omega) r x h0.2 (fun y hy => (h y (by simp [hy])).1)]
theorem join_fst {es : List Ef} : ∀ (cs : List Int) (a : Ef), (cs.foldl (joinF es) a).1 = (cs.map fun c => (ed es c).1).foldl (fun a n => min far (a + n)) a.1
  | [], _ => rfl
  | c :: r, a => by rw [List.foldl_cons, join_fst r, List.map_cons, List.foldl_cons]; rfl
theorem sumL_congr {f g : Int → Int} : ∀ (cs : List Int), (∀ c ∈ cs, f c = g c) → sumL (cs.map f) = sumL (cs.map g)
  | [], _ => rfl
  | c :: r, h => by simp only [List.map_cons, sumL]; rw [h c (by simp), sumL_congr r fun x hx => h x (by simp [hx])]
theorem ref_need {l : List Nd} {dep : List Int} {mx : Bool} {lf al : Int → Int} {es : List Ef} {rs : List Int} (hT : TF l dep) (hE : NeedP l dep mx lf es) (hR : RNeedP l dep mx al rs) (h3 : ∀ i : Nat, leafB l i = true → lf i = 0 ∨ lf i = 1 ∨ lf i = far)
    (hal : ∀ i : Nat, i < l.length → leafB l i = true → (lf i < far → al i = lf i) ∧ (lf i = far → al i = farR)) :
    ∀ j : Nat, j < l.length → ((es.getD j (0, [])).1 < far → rs.getD j 0 = (es.getD j (0, [])).1) ∧ ((es.getD j (0, [])).1 = far → rs.getD j 0 = farR) := by
  have sE := need_small hT hE h3
  refine tree_ind hT (Q := fun j => ((es.getD j (0, [])).1 < far → rs.getD j 0 = (es.getD j (0, [])).1) ∧ ((es.getD j (0, [])).1 = far → rs.getD j 0 = farR)) fun j hj hk => ?_
  have kE : ∀ c ∈ kid l j, GoodE l c (ed es c).2 ∧ Small l (ed es c) := fun c hc => by obtain ⟨i, rfl, hi, _⟩ := hk c hc; exact sE i hi
  have kR : ∀ c ∈ kid l j, ((ed es c).1 < far → rd rs c = (ed es c).1) ∧ ((ed es c).1 = far → rd rs c = farR) := fun c hc => by obtain ⟨i, rfl, hi, h⟩ := hk c hc; exact h
  have k60 : ∀ c ∈ kid l j, (ed es c).1 < far → (ed es c).1 ≤ 60 := fun c hc h => small60 hT (kE c hc).1 (kE c hc).2 h
  have kb : ∀ c ∈ kid l j, 0 ≤ rd rs c ∧ rd rs c ≤ farR := fun c hc => by
    have h1 := (kE c hc).2.lo
    have h2 := (kE c hc).2.hi
    rcases Int.lt_or_le (ed es c).1 far with h | h
    · have := k60 c hc h; rw [(kR c hc).1 h]; simp only [farR]; omega
    · rw [(kR c hc).2 (by omega)]; exact ⟨by decide, by decide⟩
  have hj60 : (es.getD j (0, [])).1 < far → (es.getD j (0, [])).1 ≤ 60 := fun h => small60 hT (sE j hj).1 (sE j hj).2 h
  rw [hE.at_ j hj] at hj60 ⊢
  rw [hR.at_ j hj]
  unfold NE at hj60 ⊢
  unfold RN
  by_cases hl : leafB l j = true
  · rw [if_pos hl, if_pos hl]; exact hal j hj hl
  · have hne := leaf_ne hl
    rw [if_neg hl] at hj60 ⊢
    rw [if_neg hl]
    by_cases he : (evB dep j == mx) = true
    · rw [if_pos he] at hj60 ⊢
      rw [if_pos he]
      obtain ⟨_, h2, h3⟩ := pick_le (es := es) (kid l j) (far, [])
      refine ⟨fun hlt => ?_, fun hf => ?_⟩
      · have h60 := hj60 hlt
        rcases h3 with h3 | ⟨c, hc, h3⟩
        · rw [h3] at hlt; simp at hlt
        · have hge : ((kid l j).foldl (pickF es) (far, [])).1 ≤ minL ((kid l j).map (rd rs)) := (minL_ge hne).2 fun x hx => by
            have := h2 x hx
            rcases Int.lt_or_le (ed es x).1 far with h | h
            · rw [(kR x hx).1 h]; exact this
            · rw [(kR x hx).2 (by have := (kE x hx).2.hi; omega)]; simp only [farR]; omega
          have hle : minL ((kid l j).map (rd rs)) ≤ ((kid l j).foldl (pickF es) (far, [])).1 := (minL_le hne).2 ⟨c, hc, by rw [h3] at hlt ⊢; rw [(kR c hc).1 hlt]; exact Int.le_refl _⟩
          omega
      · have hall := (pickFar fun c hc => (kE c hc).2.hi).1 hf
        have hge : farR ≤ minL ((kid l j).map (rd rs)) := (minL_ge hne).2 fun x hx => by rw [(kR x hx).2 (hall x hx)]; exact Int.le_refl _
        obtain ⟨c, hc⟩ := List.exists_mem_of_ne_nil _ hne
        have hle : minL ((kid l j).map (rd rs)) ≤ farR := (minL_le hne).2 ⟨c, hc, (kb c hc).2⟩
        omega
    · rw [if_neg he] at hj60 ⊢
      rw [if_neg he]
      have hjs := join_fst (es := es) (kid l j) (0, [])
      rw [cap_sum far _ (fun a n => rfl) _ _ (by decide) (fun x hx => by obtain ⟨c, hc, rfl⟩ := List.mem_map.1 hx; exact (kE c hc).2.lo)] at hjs
      have hsc := sumC_eq (xs := (kid l j).map (rd rs)) fun x hx => by obtain ⟨c, hc, rfl⟩ := List.mem_map.1 hx; exact kb c hc
      refine ⟨fun hlt => ?_, fun hf => ?_⟩
      · have h60 := hj60 hlt
        obtain ⟨_, h2, _⟩ := join_sum (es := es) (kid l j) (0, []) (by decide) (by decide) fun c hc => ⟨(kE c hc).2.lo, (kE c hc).2.hi⟩
        have := sumL_congr (f := rd rs) (g := fun c => (ed es c).1) (kid l j) fun c hc => (kR c hc).1 (Int.lt_of_le_of_lt (h2 c hc) hlt)
        rw [hsc, this]
        simp only [farR, far] at *
        omega
      · obtain ⟨c, hc, e⟩ := (joinFar hT hj kE).1 hf
        have := sumL_mem (xs := (kid l j).map (rd rs)) (fun x hx => by obtain ⟨c, hc, rfl⟩ := List.mem_map.1 hx; exact (kb c hc).1) (rd rs c) (List.mem_map.2 ⟨c, hc, rfl⟩)
        rw [(kR c hc).2 e] at this
        rw [hsc]
        omega
/-! ### Lists of an effort -/
theorem join_mem {es : List Ef} {x : Int} : ∀ (cs : List Int) (a : Ef), x ∈ (cs.foldl (joinF es) a).2 ↔ x ∈ a.2 ∨ ∃ c ∈ cs, x ∈ (ed es c).2
  | [], a => by simp
  | c :: r, a => by
    rw [List.foldl_cons, join_mem r]
    simp only [joinF, List.mem_append, List.mem_cons, exists_eq_or_imp, or_assoc]
theorem proof_ge {l : List Nd} {dep : List Int} {lf wf : Int → Int} {es : List Ef} {vs : List Int} {b : Int} {S : List Int} (hT : TF l dep) (hE : NeedP l dep true lf es) (hv : ValP l dep wf vs) (h3 : ∀ i : Nat, leafB l i = true → lf i = 0 ∨ lf i = 1 ∨ lf i = far)
    (h : ∀ i : Nat, i < l.length → leafB l i = true → lf i < far → (i : Int) ∈ S → b ≤ wf i) : ∀ j : Nat, j < l.length → (es.getD j (0, [])).1 < far → (∀ x ∈ (es.getD j (0, [])).2, x ∈ S) → b ≤ vs.getD j 0 := by
  have sE := need_small hT hE h3
  refine tree_ind hT (Q := fun j => (es.getD j (0, [])).1 < far → (∀ x ∈ (es.getD j (0, [])).2, x ∈ S) → b ≤ vs.getD j 0) fun j hj hk => ?_
  have kE : ∀ c ∈ kid l j, GoodE l c (ed es c).2 ∧ Small l (ed es c) := fun c hc => by obtain ⟨i, rfl, hi, _⟩ := hk c hc; exact sE i hi
  have kD : ∀ c ∈ kid l j, (ed es c).1 < far → (∀ x ∈ (ed es c).2, x ∈ S) → b ≤ rd vs c := fun c hc => by obtain ⟨i, rfl, hi, h⟩ := hk c hc; exact h
  rw [hE.at_ j hj, hv.at_ j hj]
  unfold NE NV
  by_cases hl : leafB l j = true
  · rw [if_pos hl, if_pos hl]
    exact fun h1 h2 => h j hj hl h1 (h2 _ (by simp))
  · have hne := leaf_ne hl
    rw [if_neg hl, if_neg hl]
    by_cases he : evB dep j = true
    · rw [if_pos (by rw [he]; rfl), if_pos he, maxL_ge hne]
      intro h1 h2
      obtain ⟨_, _, q⟩ := pick_le (es := es) (kid l j) (far, [])
      rcases q with q | ⟨c, hc, q⟩
      · rw [q] at h1; simp at h1
      · rw [q] at h1 h2; exact ⟨c, hc, kD c hc h1 h2⟩
    · rw [if_neg (by simpa using he), if_neg he, minL_ge hne]
      intro h1 h2 c hc
      obtain ⟨_, q, _⟩ := join_sum (es := es) (kid l j) (0, []) (by decide) (by decide) fun c hc => ⟨(kE c hc).2.lo, (kE c hc).2.hi⟩
      exact kD c hc (Int.lt_of_le_of_lt (q c hc) h1) fun x hx => h2 x ((join_mem _ _).2 (.inr ⟨c, hc, hx⟩))
theorem refute_le {l : List Nd} {dep : List Int} {lf wf : Int → Int} {es : List Ef} {vs : List Int} {b : Int} {S : List Int} (hT : TF l dep) (hE : NeedP l dep false lf es) (hv : ValP l dep wf vs) (h3 : ∀ i : Nat, leafB l i = true → lf i = 0 ∨ lf i = 1 ∨ lf i = far)
    (h : ∀ i : Nat, i < l.length → leafB l i = true → lf i < far → (i : Int) ∈ S → wf i ≤ b) : ∀ j : Nat, j < l.length → (es.getD j (0, [])).1 < far → (∀ x ∈ (es.getD j (0, [])).2, x ∈ S) → vs.getD j 0 ≤ b := by
  have sE := need_small hT hE h3
  refine tree_ind hT (Q := fun j => (es.getD j (0, [])).1 < far → (∀ x ∈ (es.getD j (0, [])).2, x ∈ S) → vs.getD j 0 ≤ b) fun j hj hk => ?_
  have kE : ∀ c ∈ kid l j, GoodE l c (ed es c).2 ∧ Small l (ed es c) := fun c hc => by obtain ⟨i, rfl, hi, _⟩ := hk c hc; exact sE i hi
  have kD : ∀ c ∈ kid l j, (ed es c).1 < far → (∀ x ∈ (ed es c).2, x ∈ S) → rd vs c ≤ b := fun c hc => by obtain ⟨i, rfl, hi, h⟩ := hk c hc; exact h
  rw [hE.at_ j hj, hv.at_ j hj]
  unfold NE NV
  by_cases hl : leafB l j = true
  · rw [if_pos hl, if_pos hl]
    exact fun h1 h2 => h j hj hl h1 (h2 _ (by simp))
  · have hne := leaf_ne hl
    rw [if_neg hl, if_neg hl]
    by_cases he : evB dep j = true
    · rw [if_neg (by rw [he]; simp), if_pos he, maxL_le hne]
      intro h1 h2 c hc
      obtain ⟨_, q, _⟩ := join_sum (es := es) (kid l j) (0, []) (by decide) (by decide) fun c hc => ⟨(kE c hc).2.lo, (kE c hc).2.hi⟩
      exact kD c hc (Int.lt_of_le_of_lt (q c hc) h1) fun x hx => h2 x ((join_mem _ _).2 (.inr ⟨c, hc, hx⟩))
    · have he' : evB dep j = false := by simpa using he
      rw [if_pos (by rw [he']; rfl), if_neg he, minL_le hne]
      intro h1 h2
      obtain ⟨_, _, q⟩ := pick_le (es := es) (kid l j) (far, [])
      rcases q with q | ⟨c, hc, q⟩
      · rw [q] at h1; simp at h1
      · rw [q] at h1 h2; exact ⟨c, hc, kD c hc h1 h2⟩
/-- The lists are as long as the efforts. -/
theorem need_len {l : List Nd} {dep : List Int} {mx : Bool} {lf : Int → Int} {es : List Ef} (hT : TF l dep) (hE : NeedP l dep mx lf es) (h3 : ∀ i : Nat, leafB l i = true → lf i = 1 ∨ lf i = far) :
    ∀ j : Nat, j < l.length → (es.getD j (0, [])).1 < far → (es.getD j (0, [])).1 = (es.getD j (0, [])).2.length := by
  have sE := need_small hT hE fun i hl => .inr (h3 i hl)
  refine tree_ind hT (Q := fun j => (es.getD j (0, [])).1 < far → (es.getD j (0, [])).1 = (es.getD j (0, [])).2.length) fun j hj hk => ?_
  have kE : ∀ c ∈ kid l j, GoodE l c (ed es c).2 ∧ Small l (ed es c) := fun c hc => by obtain ⟨i, rfl, hi, _⟩ := hk c hc; exact sE i hi
  have kD : ∀ c ∈ kid l j, (ed es c).1 < far → (ed es c).1 = (ed es c).2.length := fun c hc => by obtain ⟨i, rfl, hi, h⟩ := hk c hc; exact h
  rw [hE.at_ j hj]
  unfold NE
  by_cases hl : leafB l j = true
  · rw [if_pos hl]
    intro h1
    rcases h3 j hl with e | e <;> simp only [e] at h1 ⊢ <;> simp at h1 ⊢
  · rw [if_neg hl]
    by_cases he : (evB dep j == mx) = true
    · rw [if_pos he]
      intro h1
      obtain ⟨_, _, q⟩ := pick_le (es := es) (kid l j) (far, [])
      rcases q with q | ⟨c, hc, q⟩
      · rw [q] at h1; simp at h1
      · rw [q] at h1 ⊢; exact kD c hc h1
    · rw [if_neg he]
      intro h1
      obtain ⟨_, q, _⟩ := join_sum (es := es) (kid l j) (0, []) (by decide) (by decide) fun c hc => ⟨(kE c hc).2.lo, (kE c hc).2.hi⟩
      have hlt : ∀ c ∈ kid l j, (ed es c).1 < far := fun c hc => Int.lt_of_le_of_lt (q c hc) h1
      have : ∀ (cs : List Int) (a : Ef), (∀ c ∈ cs, c ∈ kid l j) → a.1 = a.2.length → (cs.foldl (joinF es) a).1 < far → (cs.foldl (joinF es) a).1 = (cs.foldl (joinF es) a).2.length := by
        intro cs
        induction cs with
        | nil => intro a _ ha _; exact ha
        | cons c r ih =>
          intro a hc ha h1
          rw [List.foldl_cons] at h1 ⊢
          refine ih _ (fun x hx => hc x (by simp [hx])) ?_ h1
          have hs := join_sum (es := es) r (joinF es a c) (by simp only [joinF]; have := (kE c (hc c (by simp))).2.lo; simp only [far]; omega) (by simp only [joinF]; omega) fun x hx => ⟨(kE x (hc x (by simp [hx]))).2.lo, (kE x (hc x (by simp [hx]))).2.hi⟩
          have h2 : (joinF es a c).1 < far := Int.lt_of_le_of_lt hs.1 h1
          have h4 := kD c (hc c (by simp)) (hlt c (hc c (by simp)))
          simp only [joinF, List.length_append] at h2 ⊢
          omega
      exact this _ _ (fun c h => h) (by simp) h1
theorem join_len {es es' : List Ef} : ∀ (cs : List Int) (a a' : Ef), (∀ c ∈ cs, (ed es c).1 ≤ (ed es' c).2.length) → a.1 ≤ a'.2.length → (cs.foldl (joinF es) a).1 ≤ (cs.foldl (joinF es') a').2.length
  | [], _, _, _, h => h
  | c :: r, a, a', hc, h => by
    have := hc c (by simp)
    refine join_len r _ _ (fun x hx => hc x (by simp [hx])) ?_
    simp only [joinF, List.length_append]
    omega
/-- Whoever decides has as many leaves. -/
theorem proof_min {l : List Nd} {dep : List Int} {lf wf : Int → Int} {es : List Ef} {vs : List Int} {b : Int} {S : List Int} (hT : TF l dep) (hE : NeedP l dep true lf es) (hv : ValP l dep wf vs)
    (h : ∀ i : Nat, i < l.length → leafB l i = true → b ≤ wf i → (i : Int) ∈ S ∧ lf i ≤ 1) : ∀ j : Nat, j < l.length → b ≤ vs.getD j 0 → ∃ ys, GoodE l j ys ∧ (∀ x ∈ ys, x ∈ S) ∧ (es.getD j (0, [])).1 ≤ ys.length := by
  refine tree_ind hT (Q := fun j => b ≤ vs.getD j 0 → ∃ ys, GoodE l j ys ∧ (∀ x ∈ ys, x ∈ S) ∧ (es.getD j (0, [])).1 ≤ ys.length) fun j hj hk => ?_
  rw [hE.at_ j hj, hv.at_ j hj]
  unfold NE NV
  by_cases hl : leafB l j = true
  · rw [if_pos hl, if_pos hl]
    intro h1
    obtain ⟨q1, q2⟩ := h j hj hl h1
    refine ⟨[(j : Int)], ⟨fun x hx => ?_, by simp⟩, fun x hx => by simp at hx; rw [hx]; exact q1, by simpa using q2⟩
    simp at hx
    subst hx
    exact ⟨by omega, by omega, hl, 0, rfl⟩
  · have hne := leaf_ne hl
    rw [if_neg hl, if_neg hl]
    by_cases he : evB dep j = true
    · rw [if_pos he, if_pos (by rw [he]; rfl), maxL_ge hne]
      rintro ⟨c, hc, h1⟩
      obtain ⟨i, rfl, hi, hq⟩ := hk c hc
      obtain ⟨ys, hg, hs, hle⟩ := hq h1
      exact ⟨ys, hg.up hc, hs, Int.le_trans ((pick_le (es := es) (kid l j) (far, [])).2.1 _ hc) hle⟩
    · rw [if_neg he, if_neg (by simpa using he), minL_ge hne]
      intro h1
      have hx : ∀ i : Nat, ∃ ys : List Int, ((i : Int) ∈ kid l j → GoodE l i ys ∧ (∀ x ∈ ys, x ∈ S) ∧ (es.getD i (0, [])).1 ≤ ys.length) := fun i => by
        by_cases hc : (i : Int) ∈ kid l j
        · obtain ⟨i', e, hi, hq⟩ := hk _ hc
          obtain rfl : i = i' := by omega
          obtain ⟨ys, hh⟩ := hq (h1 _ hc)
          exact ⟨ys, fun _ => hh⟩
        · exact ⟨[], fun h => absurd h hc⟩
      let f : Nat → List Int := fun i => Classical.choose (hx i)
      have hf : ∀ i : Nat, (i : Int) ∈ kid l j → GoodE l i (f i) ∧ (∀ x ∈ f i, x ∈ S) ∧ (es.getD i (0, [])).1 ≤ (f i).length := fun i => Classical.choose_spec (hx i)
      let es' : List Ef := (List.range l.length).map fun i => (0, f i)
      have he' : ∀ c ∈ kid l j, ∃ i : Nat, c = i ∧ (i : Int) ∈ kid l j ∧ ed es' c = (0, f i) := fun c hc => by
        obtain ⟨i, rfl, hi, _⟩ := hk c hc
        refine ⟨i, rfl, hc, ?_⟩
        simp [ed, es', List.getD_eq_getElem?_getD, hi]
      have hg := (good_join hT hj (es := es') (fun c hc => by obtain ⟨i, rfl, hm, e⟩ := he' c hc; rw [e]; exact (hf i hm).1) (kid l j).length (Nat.le_refl _)).1
      rw [List.take_length] at hg
      refine ⟨_, hg, fun x hx => ?_, ?_⟩
      · rcases (join_mem _ _).1 hx with hx | ⟨c, hc, hx⟩
        · simp at hx
        · obtain ⟨i, rfl, hm, e⟩ := he' c hc
          rw [e] at hx
          exact (hf i hm).2.1 x hx
      · exact join_len _ _ _ (fun c hc => by obtain ⟨i, rfl, hm, e⟩ := he' c hc; rw [e]; exact (hf i hm).2.2) (by simp)
theorem nodup_sub : ∀ (ys S : List Int), ys.Nodup → (∀ x ∈ ys, x ∈ S) → ys.length ≤ S.length
  | [], _, _, _ => Nat.zero_le _
  | y :: r, S, hn, h => by
    have hy := h y (by simp)
    rw [List.nodup_cons] at hn
    have := nodup_sub r (S.erase y) hn.2 fun x hx => (List.mem_erase_of_ne (fun e => by subst e; exact hn.1 hx)).2 (h x (by simp [hx]))
    rw [List.length_erase, if_pos hy] at this
    have : 0 < S.length := List.length_pos_of_mem hy
    simp only [List.length_cons]
    omega
/-- The other side's efforts. -/
theorem zero_iffF {l : List Nd} {dep : List Int} {tf wf : Int → Int} {es : List Ef} {vs : List Int} {b : Int} (hT : TF l dep) (hE : NeedP l dep false tf es) (hv : ValP l dep wf vs) (ht : ∀ i : Nat, leafB l i = true → tf i = 0 ∨ tf i = 1 ∨ tf i = far)
    (h : ∀ i : Nat, i < l.length → leafB l i = true → (tf i = 0 ↔ wf i ≤ b)) : ∀ j : Nat, j < l.length → ((es.getD j (0, [])).1 = 0 ↔ vs.getD j 0 ≤ b) := by
  have sE := need_small hT hE ht
  refine tree_ind hT (Q := fun j => ((es.getD j (0, [])).1 = 0 ↔ vs.getD j 0 ≤ b)) fun j hj hk => ?_
  have kE : ∀ c ∈ kid l j, GoodE l c (ed es c).2 ∧ Small l (ed es c) := fun c hc => by obtain ⟨i, rfl, hi, _⟩ := hk c hc; exact sE i hi
  have kD : ∀ c ∈ kid l j, ((ed es c).1 = 0 ↔ rd vs c ≤ b) := fun c hc => by obtain ⟨i, rfl, hi, h⟩ := hk c hc; exact h
  rw [hE.at_ j hj, hv.at_ j hj]
  unfold NE NV
  by_cases hl : leafB l j = true
  · rw [if_pos hl, if_pos hl]; exact h j hj hl
  · have hne := leaf_ne hl
    rw [if_neg hl, if_neg hl]
    by_cases he : evB dep j = true
    · rw [if_neg (by rw [he]; simp), if_pos he, joinZ fun c hc => ⟨(kE c hc).2.lo, (kE c hc).2.hi⟩, maxL_le hne]
      exact ⟨fun e c hc => (kD c hc).1 (e c hc), fun e c hc => (kD c hc).2 (e c hc)⟩
    · have he' : evB dep j = false := by simpa using he
      rw [if_pos (by rw [he']; rfl), if_neg he, pickZ fun c hc => (kE c hc).2.lo, minL_le hne]
      exact ⟨fun ⟨c, hc, e⟩ => ⟨c, hc, (kD c hc).1 e⟩, fun ⟨c, hc, e⟩ => ⟨c, hc, (kD c hc).2 e⟩⟩
end Go.Proofs.Ytdiljpnfochndaa.HP
