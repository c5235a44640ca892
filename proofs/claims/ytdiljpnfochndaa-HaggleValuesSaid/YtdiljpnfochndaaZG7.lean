/- A part of the walk: what this seat's statements share. -/
import Derived.Test.YtdiljpnfochndaaZG3
import Derived.Test.YtdiljpnfochndaaZG6
import Derived.Test.YtdiljpnfochndaaZG2
set_option linter.unusedVariables false
set_option linter.unusedSimpArgs false
set_option linter.unusedSectionVars false
namespace Go.Proofs.Ytdiljpnfochndaa
open Go Go.RowKit Go.Proofs.Ytdiljpnfochndaa.VW
open Go.Proofs.Ytdiljpnfochndaa.HP (Nd kid wor leafB rd evB TF far Ef GoodE gameOf gameOf_TF kidsS srS srS_good kids_good ValP NV NeedP NE)
attribute [local irreducible] W Ops
abbrev smp : List Nd := [([1, 2], 0), ([3, 4], 0), ([5, 6], 0), ([], 3), ([], 5), ([], 2), ([], 9)]
abbrev sdep : List Int := [0, 1, 1, 2, 2, 2, 2]
theorem smp_game : gameOf smp = some sdep := by decide
theorem smp_val {vs : List Int} (h : ValP smp sdep (wor smp) vs) : vs.getD 0 0 = 3 := by
  have h2 : ValP smp sdep (wor smp) [3, 3, 2, 3, 5, 2, 9] := ⟨rfl, by decide⟩
  rw [ValP.uniq (gameOf_TF smp_game) h h2]
  rfl
theorem smp_srch : srS smp sdep smp.length 0 (-far) far = (3, [3, 4, 5]) := by decide
theorem smp_proof {es : List Ef} (h : NeedP smp sdep true (proofF smp 3) es) : es.getD 0 (0, []) = (2, [3, 4]) := by
  have h2 : NeedP smp sdep true (proofF smp 3) [(2, [3, 4]), (2, [3, 4]), (far, [5, 6]), (1, [3]), (1, [4]), (far, [5]), (1, [6])] := ⟨rfl, by decide⟩
  rw [NeedP.uniq (gameOf_TF smp_game) h h2]
  rfl
theorem smp_num {z : Int} {mx : Bool} (h : NumR smp sdep [] 4 mx z) : z = 2 := by
  obtain ⟨es, h, rfl⟩ := h
  cases mx with
  | true =>
    have h2 : NeedP smp sdep true (numF smp [] 4 true) [(2, [3, 4]), (2, [3, 4]), (2, [5, 6]), (1, [3]), (1, [4]), (1, [5]), (1, [6])] := ⟨rfl, by decide⟩
    rw [NeedP.uniq (gameOf_TF smp_game) h h2]
    decide
  | false =>
    have h2 : NeedP smp sdep false (numF smp [] 4 false) [(2, [3, 5]), (1, [3]), (1, [5]), (1, [3]), (1, [4]), (1, [5]), (1, [6])] := ⟨rfl, by decide⟩
    rw [NeedP.uniq (gameOf_TF smp_game) h h2]
    decide
theorem ints_c {w : World} {v1 v2 : Value} {xs ys : List Int} (h1 : SlI w v1 xs) (h2 : SlI w v2 ys) :
    Calls Try.prog 41 #[v1, v2] w (Ret fun r w' => r = .bool (decide (xs = ys)) ∧ Below w.heap.size w w') := by
  have hl1 := Sl.len h1
  have hl2 := Sl.len h2
  obtain ⟨A1, c1, rfl⟩ := Sl.sl h1
  obtain ⟨A2, c2, rfl⟩ := Sl.sl h2
  refine calls_W (vs := [_, _]) Try.func41 rfl (by kernel_rfl) rfl ?_
  (repeat (first | with_reducible refine W.seq ?_ | with_reducible refine Ops.nil ?_ | with_reducible refine W.region ?_ | refine z_p (kk := ?_) | refine z_a (kk := ?_) | refine z_y (kk := ?_) | refine z_n (kk := ?_) | refine z_u (kk := ?_) | with_reducible refine W.skip ?_ | with_reducible refine W.endb ?_ | with_reducible refine W.block ?_ | refine W.exit rfl ?_ | refine z_l (kk := ?_) | refine z_f (kk := ?_) | refine z_M (kk := ?_) | refine z_m (kk := ?_) | refine z_e (kk := ?_) | refine z_E (kk := ?_) | refine z_d (kk := ?_)))
  refine W.cond rfl (fun hc => ?_) (fun hc => ?_)
  · (repeat (first | with_reducible refine W.seq ?_ | with_reducible refine Ops.nil ?_ | with_reducible refine W.region ?_ | refine z_p (kk := ?_) | refine z_a (kk := ?_) | refine z_y (kk := ?_) | refine z_n (kk := ?_) | refine z_u (kk := ?_) | with_reducible refine W.skip ?_ | with_reducible refine W.endb ?_ | with_reducible refine W.block ?_ | refine W.exit rfl ?_ | refine z_l (kk := ?_) | refine z_f (kk := ?_) | refine z_M (kk := ?_) | refine z_m (kk := ?_) | refine z_e (kk := ?_) | refine z_E (kk := ?_) | refine z_d (kk := ?_)))
    refine W.fret rfl ⟨?_, Below.refl _ _⟩
    have hne : xs ≠ ys := by intro e; subst e; simp at hc
    simp [hne, resV]
  · have hll : xs.length = ys.length := by simp at hc; omega
    (repeat (first | with_reducible refine W.seq ?_ | with_reducible refine Ops.nil ?_ | with_reducible refine W.region ?_ | refine z_p (kk := ?_) | refine z_a (kk := ?_) | refine z_y (kk := ?_) | refine z_n (kk := ?_) | refine z_u (kk := ?_) | with_reducible refine W.skip ?_ | with_reducible refine W.endb ?_ | with_reducible refine W.block ?_ | refine W.exit rfl ?_ | refine z_l (kk := ?_) | refine z_f (kk := ?_) | refine z_M (kk := ?_) | refine z_m (kk := ?_) | refine z_e (kk := ?_) | refine z_E (kk := ?_) | refine z_d (kk := ?_)))
    refine W.loop (fun m ρ w3 => ∃ j : Nat, m = xs.length - j ∧ j ≤ xs.length ∧ ρ = [(0, .slice A1 xs.length c1), (1, .slice A2 ys.length c2), (5, .int .i64 j)] ∧ Below w.heap.size w w3 ∧ ∀ k, k < j → xs.getD k 0 = ys.getD k 0)
      ⟨_, _, ⟨0, rfl, Nat.zero_le _, rfl, Below.refl _ _, fun k hk => by omega⟩, (by repeat (first | exact trivial | refine And.intro rfl ?_))⟩ ?_
    rintro m ρ w3 ⟨j, rfl, hj, rfl, hb3, hok⟩
    (repeat (first | with_reducible refine W.seq ?_ | with_reducible refine Ops.nil ?_ | with_reducible refine W.region ?_ | refine z_p (kk := ?_) | refine z_a (kk := ?_) | refine z_y (kk := ?_) | refine z_n (kk := ?_) | refine z_u (kk := ?_) | with_reducible refine W.skip ?_ | with_reducible refine W.endb ?_ | with_reducible refine W.block ?_ | refine W.exit rfl ?_ | refine z_l (kk := ?_) | refine z_f (kk := ?_) | refine z_M (kk := ?_) | refine z_m (kk := ?_) | refine z_e (kk := ?_) | refine z_E (kk := ?_) | refine z_d (kk := ?_)))
    refine W.cond rfl (fun hc => ?_) (fun hc => ?_)
    · have hlt : j < xs.length := by simp at hc; omega
      (repeat (first | with_reducible refine W.seq ?_ | with_reducible refine Ops.nil ?_ | with_reducible refine W.region ?_ | refine z_p (kk := ?_) | refine z_a (kk := ?_) | refine z_y (kk := ?_) | refine z_n (kk := ?_) | refine z_u (kk := ?_) | with_reducible refine W.skip ?_ | with_reducible refine W.endb ?_ | with_reducible refine W.block ?_ | refine W.exit rfl ?_ | refine z_l (kk := ?_) | refine z_f (kk := ?_) | refine z_M (kk := ?_) | refine z_m (kk := ?_) | refine z_e (kk := ?_) | refine z_E (kk := ?_) | refine z_d (kk := ?_)))
      refine W.still' rfl (by kernel_rfl) (fun w4 k4 _ => ?_)
      have hb4 := Below.at_ hb3 k4 (fun _ e => e.elim)
      (repeat (first | with_reducible refine W.seq ?_ | with_reducible refine Ops.nil ?_ | with_reducible refine W.region ?_ | refine z_p (kk := ?_) | refine z_a (kk := ?_) | refine z_y (kk := ?_) | refine z_n (kk := ?_) | refine z_u (kk := ?_) | with_reducible refine W.skip ?_ | with_reducible refine W.endb ?_ | with_reducible refine W.block ?_ | refine W.exit rfl ?_ | refine z_l (kk := ?_) | refine z_f (kk := ?_) | refine z_M (kk := ?_) | refine z_m (kk := ?_) | refine z_e (kk := ?_) | refine z_E (kk := ?_) | refine z_d (kk := ?_)))
      refine Ops.rdS (enc := Value.int .i64) (z := (0 : Int)) rfl rfl rfl rfl rfl rfl rfl rfl rfl rfl rfl (Sl.below h1 hb4) (by omega) (by omega) (fun p => ?_)
      (repeat (first | with_reducible refine W.seq ?_ | with_reducible refine Ops.nil ?_ | with_reducible refine W.region ?_ | refine z_p (kk := ?_) | refine z_a (kk := ?_) | refine z_y (kk := ?_) | refine z_n (kk := ?_) | refine z_u (kk := ?_) | with_reducible refine W.skip ?_ | with_reducible refine W.endb ?_ | with_reducible refine W.block ?_ | refine W.exit rfl ?_ | refine z_l (kk := ?_) | refine z_f (kk := ?_) | refine z_M (kk := ?_) | refine z_m (kk := ?_) | refine z_e (kk := ?_) | refine z_E (kk := ?_) | refine z_d (kk := ?_)))
      refine Ops.rdS (enc := Value.int .i64) (z := (0 : Int)) rfl rfl rfl rfl rfl rfl rfl rfl rfl rfl rfl (Sl.below h2 hb4) (by omega) (by omega) (fun p => ?_)
      simp only [Int.toNat_natCast]
      (repeat (first | with_reducible refine W.seq ?_ | with_reducible refine Ops.nil ?_ | with_reducible refine W.region ?_ | refine z_p (kk := ?_) | refine z_a (kk := ?_) | refine z_y (kk := ?_) | refine z_n (kk := ?_) | refine z_u (kk := ?_) | with_reducible refine W.skip ?_ | with_reducible refine W.endb ?_ | with_reducible refine W.block ?_ | refine W.exit rfl ?_ | refine z_l (kk := ?_) | refine z_f (kk := ?_) | refine z_M (kk := ?_) | refine z_m (kk := ?_) | refine z_e (kk := ?_) | refine z_E (kk := ?_) | refine z_d (kk := ?_)))
      refine Ops.nilS rfl ?_
      (repeat (first | with_reducible refine W.seq ?_ | with_reducible refine Ops.nil ?_ | with_reducible refine W.region ?_ | refine z_p (kk := ?_) | refine z_a (kk := ?_) | refine z_y (kk := ?_) | refine z_n (kk := ?_) | refine z_u (kk := ?_) | with_reducible refine W.skip ?_ | with_reducible refine W.endb ?_ | with_reducible refine W.block ?_ | refine W.exit rfl ?_ | refine z_l (kk := ?_) | refine z_f (kk := ?_) | refine z_M (kk := ?_) | refine z_m (kk := ?_) | refine z_e (kk := ?_) | refine z_E (kk := ?_) | refine z_d (kk := ?_)))
      refine W.cond rfl (fun hc2 => ?_) (fun hc2 => ?_)
      · (repeat (first | with_reducible refine W.seq ?_ | with_reducible refine Ops.nil ?_ | with_reducible refine W.region ?_ | refine z_p (kk := ?_) | refine z_a (kk := ?_) | refine z_y (kk := ?_) | refine z_n (kk := ?_) | refine z_u (kk := ?_) | with_reducible refine W.skip ?_ | with_reducible refine W.endb ?_ | with_reducible refine W.block ?_ | refine W.exit rfl ?_ | refine z_l (kk := ?_) | refine z_f (kk := ?_) | refine z_M (kk := ?_) | refine z_m (kk := ?_) | refine z_e (kk := ?_) | refine z_E (kk := ?_) | refine z_d (kk := ?_)))
        refine W.fret rfl ⟨?_, hb4⟩
        have hne : xs ≠ ys := by intro e; subst e; simp at hc2
        simp [hne, resV]
      · (repeat (first | with_reducible refine W.seq ?_ | with_reducible refine Ops.nil ?_ | with_reducible refine W.region ?_ | refine z_p (kk := ?_) | refine z_a (kk := ?_) | refine z_y (kk := ?_) | refine z_n (kk := ?_) | refine z_u (kk := ?_) | with_reducible refine W.skip ?_ | with_reducible refine W.endb ?_ | with_reducible refine W.block ?_ | refine W.exit rfl ?_ | refine z_l (kk := ?_) | refine z_f (kk := ?_) | refine z_M (kk := ?_) | refine z_m (kk := ?_) | refine z_e (kk := ?_) | refine z_E (kk := ?_) | refine z_d (kk := ?_)))
        refine W.endl ⟨_, _, ⟨⟨j + 1, rfl, by omega, rfl, hb4, fun k hk => ?_⟩, by omega⟩, (by repeat (first | exact trivial | refine And.intro rfl ?_))⟩
        by_cases e : k = j
        · rw [e]; simpa using hc2
        · exact hok k (by omega)
    · have hlt : j = xs.length := by simp at hc; omega
      subst hlt
      (repeat (first | with_reducible refine W.seq ?_ | with_reducible refine Ops.nil ?_ | with_reducible refine W.region ?_ | refine z_p (kk := ?_) | refine z_a (kk := ?_) | refine z_y (kk := ?_) | refine z_n (kk := ?_) | refine z_u (kk := ?_) | with_reducible refine W.skip ?_ | with_reducible refine W.endb ?_ | with_reducible refine W.block ?_ | refine W.exit rfl ?_ | refine z_l (kk := ?_) | refine z_f (kk := ?_) | refine z_M (kk := ?_) | refine z_m (kk := ?_) | refine z_e (kk := ?_) | refine z_E (kk := ?_) | refine z_d (kk := ?_)))
      refine W.fret rfl ⟨?_, hb3⟩
      have he : xs = ys := by
        apply List.ext_getElem hll
        intro i i1 i2
        have := hok i i1
        simpa [List.getD_eq_getElem?_getD, i1, i2] using this
      simp [he, resV]
theorem own2 {w : World} {r : Nat} {a b : Int} (h : Blk w r #[.int .i64 a, .int .i64 b] 3) : SlI w (.slice (some ⟨r, 0, none⟩) 2 2) [a, b] := by
  refine ⟨by simp, _, 2, rfl, fun _ => ⟨_, rfl, fun j hj => ?_⟩⟩
  rw [add_lit, Nat.zero_add]
  rcases j with _ | _ | j
  · exact h.cell rfl
  · exact h.cell rfl
  · simp at hj; omega
theorem sl3 {w : World} {r : Nat} {a b c : Int} (h : Blk w r #[.int .i64 a, .int .i64 b, .int .i64 c] 3) : SlI w (.slice (some ⟨r, 0, none⟩) 3 3) [a, b, c] := by
  refine ⟨by simp, _, 3, rfl, fun _ => ⟨_, rfl, fun j hj => ?_⟩⟩
  rw [add_lit, Nat.zero_add]
  rcases j with _ | _ | _ | j
  · exact h.cell rfl
  · exact h.cell rfl
  · exact h.cell rfl
  · simp at hj; omega
theorem sample_c (w : World) : Calls Try.prog 62 #[] w (Ret fun r w' => TreeM w' r smp ∧ Below w.heap.size w w') := by
  refine calls_W (vs := []) Try.func62 rfl (by kernel_rfl) rfl ?_
  (repeat (first | with_reducible refine W.seq ?_ | with_reducible refine Ops.nil ?_ | with_reducible refine W.region ?_ | refine z_p (kk := ?_) | refine z_a (kk := ?_) | refine z_y (kk := ?_) | refine z_n (kk := ?_) | refine z_u (kk := ?_) | with_reducible refine W.skip ?_ | with_reducible refine W.endb ?_ | with_reducible refine W.block ?_ | refine W.exit rfl ?_ | refine z_l (kk := ?_) | refine z_f (kk := ?_) | refine z_M (kk := ?_) | refine z_m (kk := ?_) | refine z_e (kk := ?_) | refine z_E (kk := ?_) | refine z_d (kk := ?_)))
  refine Ops.bs2 rfl rfl rfl rfl rfl rfl rfl rfl rfl rfl rfl (fun w1 r1 hM1 => ?_)
  refine Ops.bldG (cs := #[.slice (some ⟨r1, 0, none⟩) 2 2, .int .i64 0]) rfl rfl rfl rfl rfl rfl (by kernel_rfl) ?_
  refine Ops.bs2 rfl rfl rfl rfl rfl rfl rfl rfl rfl rfl rfl (fun w2 r2 hM2 => ?_)
  refine Ops.bldG (cs := #[.slice (some ⟨r2, 0, none⟩) 2 2, .int .i64 0]) rfl rfl rfl rfl rfl rfl (by kernel_rfl) ?_
  refine Ops.bs2 rfl rfl rfl rfl rfl rfl rfl rfl rfl rfl rfl (fun w3 r3 hM3 => ?_)
  refine Ops.bldG (cs := #[.slice (some ⟨r3, 0, none⟩) 2 2, .int .i64 0]) rfl rfl rfl rfl rfl rfl (by kernel_rfl) ?_
  refine Ops.bldG (cs := #[.slice none 0 0, .int .i64 3]) rfl rfl rfl rfl rfl rfl (by kernel_rfl) ?_
  refine Ops.bldG (cs := #[.slice none 0 0, .int .i64 5]) rfl rfl rfl rfl rfl rfl (by kernel_rfl) ?_
  refine Ops.bldG (cs := #[.slice none 0 0, .int .i64 2]) rfl rfl rfl rfl rfl rfl (by kernel_rfl) ?_
  refine Ops.bldG (cs := #[.slice none 0 0, .int .i64 9]) rfl rfl rfl rfl rfl rfl (by kernel_rfl) ?_
  refine Ops.bsG (cs := #[.slice (some ⟨r1, 0, none⟩) 2 2, .int .i64 0, .slice (some ⟨r2, 0, none⟩) 2 2, .int .i64 0, .slice (some ⟨r3, 0, none⟩) 2 2, .int .i64 0, .slice none 0 0, .int .i64 3, .slice none 0 0, .int .i64 5, .slice none 0 0, .int .i64 2, .slice none 0 0, .int .i64 9]) rfl rfl rfl rfl rfl rfl rfl rfl rfl (by kernel_rfl) (fun w4 r4 hM4 => ?_)
  (repeat (first | with_reducible refine W.seq ?_ | with_reducible refine Ops.nil ?_ | with_reducible refine W.region ?_ | refine z_p (kk := ?_) | refine z_a (kk := ?_) | refine z_y (kk := ?_) | refine z_n (kk := ?_) | refine z_u (kk := ?_) | with_reducible refine W.skip ?_ | with_reducible refine W.endb ?_ | with_reducible refine W.block ?_ | refine W.exit rfl ?_ | refine z_l (kk := ?_) | refine z_f (kk := ?_) | refine z_M (kk := ?_) | refine z_m (kk := ?_) | refine z_e (kk := ?_) | refine z_E (kk := ?_) | refine z_d (kk := ?_)))
  have k14 := (hM2.kp.trans hM3.kp).trans hM4.kp
  have k24 := hM3.kp.trans hM4.kp
  have h1 := own2 (Blk.kp hM1.at_ k14 (by rintro ((h | h) | h) <;> exact h))
  have h2 := own2 (Blk.kp hM2.at_ k24 (by rintro (h | h) <;> exact h))
  have h3 := own2 (Blk.kp hM3.at_ hM4.kp (fun h => h))
  have h4 : Blk w4 r4 #[.slice (some ⟨r1, 0, none⟩) 2 2, .int .i64 0, .slice (some ⟨r2, 0, none⟩) 2 2, .int .i64 0, .slice (some ⟨r3, 0, none⟩) 2 2, .int .i64 0, .slice none 0 0, .int .i64 3, .slice none 0 0, .int .i64 5, .slice none 0 0, .int .i64 2, .slice none 0 0, .int .i64 9] 47 := hM4.at_
  refine W.fret rfl ⟨⟨some ⟨r4, 0, none⟩, 7, [.slice (some ⟨r1, 0, none⟩) 2 2, .slice (some ⟨r2, 0, none⟩) 2 2, .slice (some ⟨r3, 0, none⟩) 2 2, .slice none 0 0, .slice none 0 0, .slice none 0 0, .slice none 0 0], rfl, fun _ => ⟨_, rfl, fun j hj => ?_⟩, fun j hj => ?_⟩, ((((hM1.kp.trans hM2.kp).trans hM3.kp).trans hM4.kp)).below (Nat.le_refl _) (by rintro i _ (((h | h) | h) | h) <;> exact h)⟩
  · rw [add_lit, add_lit, Nat.zero_add]
    rcases j with _ | _ | _ | _ | _ | _ | _ | j
    · exact ⟨h4.cell rfl, h4.cell rfl⟩
    · exact ⟨h4.cell rfl, h4.cell rfl⟩
    · exact ⟨h4.cell rfl, h4.cell rfl⟩
    · exact ⟨h4.cell rfl, h4.cell rfl⟩
    · exact ⟨h4.cell rfl, h4.cell rfl⟩
    · exact ⟨h4.cell rfl, h4.cell rfl⟩
    · exact ⟨h4.cell rfl, h4.cell rfl⟩
    · simp at hj; omega
  · rcases j with _ | _ | _ | _ | _ | _ | _ | j
    · exact h1
    · exact h2
    · exact h3
    · exact Sl.nil _ _ _ _ _
    · exact Sl.nil _ _ _ _ _
    · exact Sl.nil _ _ _ _ _
    · exact Sl.nil _ _ _ _ _
    · simp at hj; omega
theorem awake_c (w : World) : Calls Try.prog 22 #[] w (Ret fun r w' => r = .bool true ∧ Below w.heap.size w w') := by
  refine calls_W (vs := []) Try.func22 rfl (by kernel_rfl) rfl ?_
  have hl : smp.length ≤ 9223372036854775807 := by decide
  (repeat (first | with_reducible refine W.seq ?_ | with_reducible refine Ops.nil ?_ | with_reducible refine W.region ?_ | refine z_p (kk := ?_) | refine z_a (kk := ?_) | refine z_y (kk := ?_) | refine z_n (kk := ?_) | refine z_u (kk := ?_) | with_reducible refine W.skip ?_ | with_reducible refine W.endb ?_ | with_reducible refine W.block ?_ | refine W.exit rfl ?_ | refine z_l (kk := ?_) | refine z_f (kk := ?_) | refine z_M (kk := ?_) | refine z_m (kk := ?_) | refine z_e (kk := ?_) | refine z_E (kk := ?_) | refine z_d (kk := ?_)))
  refine Ops.call rfl rfl rfl rfl rfl (sample_c w) (fun v1 w1 hR => ?_)
  obtain ⟨hT1, hb1⟩ := hR
  refine Ops.call rfl rfl rfl rfl rfl (value_c hT1 hl) (fun r w2 hR => ?_)
  obtain ⟨hb12, hR⟩ := hR
  rw [smp_game] at hR
  obtain ⟨vs, hvs, rfl⟩ := hR
  rw [smp_val hvs]
  have hb2 := hb1.trans (hb12.mono hb1.size)
  clear hvs hT1
  (repeat (first | with_reducible refine W.seq ?_ | with_reducible refine Ops.nil ?_ | with_reducible refine W.region ?_ | refine z_p (kk := ?_) | refine z_a (kk := ?_) | refine z_y (kk := ?_) | refine z_n (kk := ?_) | refine z_u (kk := ?_) | with_reducible refine W.skip ?_ | with_reducible refine W.endb ?_ | with_reducible refine W.block ?_ | refine W.exit rfl ?_ | refine z_l (kk := ?_) | refine z_f (kk := ?_) | refine z_M (kk := ?_) | refine z_m (kk := ?_) | refine z_e (kk := ?_) | refine z_E (kk := ?_) | refine z_d (kk := ?_)))
  refine Ops.call rfl rfl rfl rfl rfl (sample_c w2) (fun v3 w3 hR => ?_)
  obtain ⟨hT3, hb23⟩ := hR
  have hb3 := hb2.trans (hb23.mono hb2.size)
  refine Ops.call rfl rfl rfl rfl rfl (search_c hT3 hl) (fun r w4 hR => ?_)
  obtain ⟨hb34, hR⟩ := hR
  have hb4 := hb3.trans (hb34.mono hb3.size)
  simp only [SearchR, smp_game, Option.elim, smp_srch] at hR
  obtain ⟨lv, rfl, hI4⟩ := hR
  clear hT3
  (repeat (first | with_reducible refine W.seq ?_ | with_reducible refine Ops.nil ?_ | with_reducible refine W.region ?_ | refine z_p (kk := ?_) | refine z_a (kk := ?_) | refine z_y (kk := ?_) | refine z_n (kk := ?_) | refine z_u (kk := ?_) | with_reducible refine W.skip ?_ | with_reducible refine W.endb ?_ | with_reducible refine W.block ?_ | refine W.exit rfl ?_ | refine z_l (kk := ?_) | refine z_f (kk := ?_) | refine z_M (kk := ?_) | refine z_m (kk := ?_) | refine z_e (kk := ?_) | refine z_E (kk := ?_) | refine z_d (kk := ?_)))
  refine Ops.call rfl rfl rfl rfl rfl (sample_c w4) (fun v5 w5 hR => ?_)
  obtain ⟨hT5, hb45⟩ := hR
  have hb5 := hb4.trans (hb45.mono hb4.size)
  refine Ops.call rfl rfl rfl rfl rfl (proof_c hT5 hl) (fun r w6 hR => ?_)
  obtain ⟨hb56, hR⟩ := hR
  have hb6 := hb5.trans (hb56.mono hb5.size)
  simp only [ProvedR, smp_game] at hR
  rw [if_pos (by decide)] at hR
  simp only [Option.elim] at hR
  obtain ⟨es, hes, _, hR⟩ := hR
  rw [smp_proof hes] at hR
  rcases hR with ⟨h, _⟩ | ⟨_, pv, rfl, hI6⟩
  · exact absurd h (by decide)
  clear hT5 hes
  (repeat (first | with_reducible refine W.seq ?_ | with_reducible refine Ops.nil ?_ | with_reducible refine W.region ?_ | refine z_p (kk := ?_) | refine z_a (kk := ?_) | refine z_y (kk := ?_) | refine z_n (kk := ?_) | refine z_u (kk := ?_) | with_reducible refine W.skip ?_ | with_reducible refine W.endb ?_ | with_reducible refine W.block ?_ | refine W.exit rfl ?_ | refine z_l (kk := ?_) | refine z_f (kk := ?_) | refine z_M (kk := ?_) | refine z_m (kk := ?_) | refine z_e (kk := ?_) | refine z_E (kk := ?_) | refine z_d (kk := ?_)))
  refine Ops.call rfl rfl rfl rfl rfl (sample_c w6) (fun v7 w7 hR => ?_)
  obtain ⟨hT7, hb67⟩ := hR
  have hb7 := hb6.trans (hb67.mono hb6.size)
  refine Ops.call rfl rfl rfl rfl rfl (numbers_c hT7 hl (Sl.nil (Value.int .i64) (0 : Int) w7 none 0)) (fun r w8 hR => ?_)
  obtain ⟨hb78, hR⟩ := hR
  have hb8 := hb7.trans (hb78.mono hb7.size)
  simp only [NumbersR, smp_game] at hR
  rw [if_pos (by decide)] at hR
  simp only [Option.elim] at hR
  obtain ⟨y, z, hy, hz, rfl⟩ := hR
  rw [smp_num hy, smp_num hz]
  have hI48 := Sl.below hI4.sl (hb45.trans ((hb56.trans ((hb67.trans (hb78.mono hb67.size)).mono hb56.size)).mono hb45.size))
  have hI68 := Sl.below hI6.sl (hb67.trans (hb78.mono hb67.size))
  clear hT7 hy hz
  (repeat (first | with_reducible refine W.seq ?_ | with_reducible refine Ops.nil ?_ | with_reducible refine W.region ?_ | refine z_p (kk := ?_) | refine z_a (kk := ?_) | refine z_y (kk := ?_) | refine z_n (kk := ?_) | refine z_u (kk := ?_) | with_reducible refine W.skip ?_ | with_reducible refine W.endb ?_ | with_reducible refine W.block ?_ | refine W.exit rfl ?_ | refine z_l (kk := ?_) | refine z_f (kk := ?_) | refine z_M (kk := ?_) | refine z_m (kk := ?_) | refine z_e (kk := ?_) | refine z_E (kk := ?_) | refine z_d (kk := ?_)))
  refine Ops.bsG (cs := #[.int .i64 3, .int .i64 4, .int .i64 5]) rfl rfl rfl rfl rfl rfl rfl rfl rfl (by kernel_rfl) (fun w9 r9 hM9 => ?_)
  have hb9 : Below w.heap.size w w9 := Below.at_ hb8 hM9.kp (fun _ e => e.elim)
  have h9 : SlI w9 (.slice (some ⟨r9, 0, none⟩) 3 3) [3, 4, 5] := sl3 hM9.at_
  have hI49 := hI48.kp hM9.kp (fun _ _ e => e)
  have hI69 := hI68.kp hM9.kp (fun _ _ e => e)
  (repeat (first | with_reducible refine W.seq ?_ | with_reducible refine Ops.nil ?_ | with_reducible refine W.region ?_ | refine z_p (kk := ?_) | refine z_a (kk := ?_) | refine z_y (kk := ?_) | refine z_n (kk := ?_) | refine z_u (kk := ?_) | with_reducible refine W.skip ?_ | with_reducible refine W.endb ?_ | with_reducible refine W.block ?_ | refine W.exit rfl ?_ | refine z_l (kk := ?_) | refine z_f (kk := ?_) | refine z_M (kk := ?_) | refine z_m (kk := ?_) | refine z_e (kk := ?_) | refine z_E (kk := ?_) | refine z_d (kk := ?_)))
  refine Ops.call rfl rfl rfl rfl rfl (ints_c hI49 h9) (fun r w10 hR => ?_)
  obtain ⟨rfl, hb910⟩ := hR
  rw [decide_eq_true (rfl : ([3, 4, 5] : List Int) = [3, 4, 5])]
  have hb10 := hb9.trans (hb910.mono hb9.size)
  (repeat (first | with_reducible refine W.seq ?_ | with_reducible refine Ops.nil ?_ | with_reducible refine W.region ?_ | refine z_p (kk := ?_) | refine z_a (kk := ?_) | refine z_y (kk := ?_) | refine z_n (kk := ?_) | refine z_u (kk := ?_) | with_reducible refine W.skip ?_ | with_reducible refine W.endb ?_ | with_reducible refine W.block ?_ | refine W.exit rfl ?_ | refine z_l (kk := ?_) | refine z_f (kk := ?_) | refine z_M (kk := ?_) | refine z_m (kk := ?_) | refine z_e (kk := ?_) | refine z_E (kk := ?_) | refine z_d (kk := ?_)))
  refine Ops.bs2 rfl rfl rfl rfl rfl rfl rfl rfl rfl rfl rfl (fun w11 r11 hM11 => ?_)
  have hb11 : Below w.heap.size w w11 := Below.at_ hb10 hM11.kp (fun _ e => e.elim)
  have h11 : SlI w11 (.slice (some ⟨r11, 0, none⟩) 2 2) [3, 4] := own2 hM11.at_
  have hI611 := (Sl.below hI69 hb910).kp hM11.kp (fun _ _ e => e)
  (repeat (first | with_reducible refine W.seq ?_ | with_reducible refine Ops.nil ?_ | with_reducible refine W.region ?_ | refine z_p (kk := ?_) | refine z_a (kk := ?_) | refine z_y (kk := ?_) | refine z_n (kk := ?_) | refine z_u (kk := ?_) | with_reducible refine W.skip ?_ | with_reducible refine W.endb ?_ | with_reducible refine W.block ?_ | refine W.exit rfl ?_ | refine z_l (kk := ?_) | refine z_f (kk := ?_) | refine z_M (kk := ?_) | refine z_m (kk := ?_) | refine z_e (kk := ?_) | refine z_E (kk := ?_) | refine z_d (kk := ?_)))
  refine Ops.call rfl rfl rfl rfl rfl (ints_c hI611 h11) (fun r w12 hR => ?_)
  obtain ⟨rfl, hb1112⟩ := hR
  have he : ((2, [3, 4]) : Ef).2.mergeSort (fun x y => decide (x ≤ y)) = [3, 4] := List.mergeSort_of_pairwise (by simp)
  rw [decide_eq_true he]
  have hb12' := hb11.trans (hb1112.mono hb11.size)
  (repeat (first | with_reducible refine W.seq ?_ | with_reducible refine Ops.nil ?_ | with_reducible refine W.region ?_ | refine z_p (kk := ?_) | refine z_a (kk := ?_) | refine z_y (kk := ?_) | refine z_n (kk := ?_) | refine z_u (kk := ?_) | with_reducible refine W.skip ?_ | with_reducible refine W.endb ?_ | with_reducible refine W.block ?_ | refine W.exit rfl ?_ | refine z_l (kk := ?_) | refine z_f (kk := ?_) | refine z_M (kk := ?_) | refine z_m (kk := ?_) | refine z_e (kk := ?_) | refine z_E (kk := ?_) | refine z_d (kk := ?_)))
  refine W.cond rfl (fun hc => ?_) (fun hc => ?_)
  · simp at hc
  (repeat (first | with_reducible refine W.seq ?_ | with_reducible refine Ops.nil ?_ | with_reducible refine W.region ?_ | refine z_p (kk := ?_) | refine z_a (kk := ?_) | refine z_y (kk := ?_) | refine z_n (kk := ?_) | refine z_u (kk := ?_) | with_reducible refine W.skip ?_ | with_reducible refine W.endb ?_ | with_reducible refine W.block ?_ | refine W.exit rfl ?_ | refine z_l (kk := ?_) | refine z_f (kk := ?_) | refine z_M (kk := ?_) | refine z_m (kk := ?_) | refine z_e (kk := ?_) | refine z_E (kk := ?_) | refine z_d (kk := ?_)))
  refine W.cond rfl (fun hc => ?_) (fun hc => ?_)
  · simp at hc
  (repeat (first | with_reducible refine W.seq ?_ | with_reducible refine Ops.nil ?_ | with_reducible refine W.region ?_ | refine z_p (kk := ?_) | refine z_a (kk := ?_) | refine z_y (kk := ?_) | refine z_n (kk := ?_) | refine z_u (kk := ?_) | with_reducible refine W.skip ?_ | with_reducible refine W.endb ?_ | with_reducible refine W.block ?_ | refine W.exit rfl ?_ | refine z_l (kk := ?_) | refine z_f (kk := ?_) | refine z_M (kk := ?_) | refine z_m (kk := ?_) | refine z_e (kk := ?_) | refine z_E (kk := ?_) | refine z_d (kk := ?_)))
  exact W.fret rfl ⟨rfl, hb12'⟩
end Go.Proofs.Ytdiljpnfochndaa
/- What a tree must fulfil; and that it is one then. -/
namespace Go.Proofs.Ytdiljpnfochndaa.HP
structure TK (l : List Nd) : Prop where
  n1 : 1 ≤ l.length
  n60 : l.length ≤ 60
  kin : ∀ a b : Nat, a < l.length → b < (kid l a).length → (a : Int) < k_ l a b ∧ k_ l a b < l.length
  inj : ∀ a b a' b' : Nat, a < l.length → b < (kid l a).length → a' < l.length → b' < (kid l a').length → k_ l a b = k_ l a' b' → a = a' ∧ b = b'
  cov : ∀ c : Nat, 1 ≤ c → c < l.length → ∃ a b : Nat, a < l.length ∧ b < (kid l a).length ∧ k_ l a b = c
  wor : ∀ a : Nat, a < l.length → -100 ≤ wor l a ∧ Go.Proofs.Ytdiljpnfochndaa.HP.wor l a ≤ 100 ∧ (0 < (kid l a).length → Go.Proofs.Ytdiljpnfochndaa.HP.wor l a = 0)
theorem TF.tk {l : List Nd} {dep : List Int} (h : TF l dep) : TK l := ⟨h.n1, h.n60, h.kin, h.inj, h.cov, h.wor⟩
theorem kids_go {l : List Nd} (hT : TK l) {i : Nat} (hi : i < l.length) (d : Nat) : ∀ (j : Nat) (dep : List Int), (kid l i).length - j = d → j ≤ (kid l i).length → Inv l i j dep → j ≤ cnt dep → ∃ dep', kidsStep l.length i ((kid l i).drop j) dep = some dep' := by
  induction d with
  | zero =>
    intro j dep hd hj h hjc
    rw [List.drop_eq_nil_of_le (by omega)]
    exact ⟨dep, rfl⟩
  | succ d ih =>
    intro j dep hd hj h hjc
    have hlt : j < (kid l i).length := by omega
    rw [kids_at _ _ _ _ _ hlt]
    have hk := hT.kin i j hi hlt
    have h3 : rd dep (k_ l i j) ≤ 0 := by
      by_cases e : rd dep (k_ l i j) ≤ 0
      · exact e
      · have hp : 0 < dep.getD (k_ l i j).toNat 0 := by simp only [rd] at e; omega
        obtain ⟨a, b, h1, h2, h4⟩ := h.p2 _ hp
        have ha : a < l.length := by unfold Dn at h1; omega
        have := hT.inj a b i j ha h2 hi hlt (by rw [h4]; omega)
        unfold Dn at h1
        omega
    have hc : (i : Int) + 1 ≤ (kid l i).getD j 0 ∧ (kid l i).getD j 0 ≤ (l.length : Int) - 1 ∧ rd dep ((kid l i).getD j 0) ≤ 0 := ⟨by have := hk.1; simp only [k_] at this; omega, by have := hk.2; simp only [k_] at this; omega, h3⟩
    rw [if_pos hc]
    have hbi := h.p4 i
    have h3' := h3
    simp only [rd] at h3'
    have hcc : cnt (dep.set (k_ l i j).toNat (rd dep i + 1)) = cnt dep + 1 := cnt_set (by rw [h.len]; omega) h3' (by simp only [rd, Int.toNat_natCast]; omega)
    exact ih (j + 1) _ (by omega) (by omega) (inv_step h hi hlt hc.1 hc.2.1 hc.2.2 (fun b hb => by omega) hjc) (by simp only [k_] at hcc; rw [hcc]; omega)
theorem node_step {l : List Nd} {i : Nat} {dep dep1 : List Int} (hlt : i < l.length) (h : NInv l i dep) (hc : ¬ ((0 < (i : Int) ∧ rd dep i = 0) ∨ ¬ (-100 ≤ wor l i ∧ wor l i ≤ 100) ∨ (0 < (kid l i).length ∧ wor l i ≠ 0))) (h1 : kidsStep l.length i (kid l i) dep = some dep1) : NInv l (i + 1) dep1 := by
  have hk := kids_inv hlt _ 0 dep dep1 rfl (Nat.zero_le _) h.inv (Nat.zero_le _) (by simpa using h1)
  have hkeep := kids_keep _ 0 dep dep1 rfl h.inv.len (by simpa using h1)
  refine ⟨⟨hk.len, ?_, ?_, ?_, hk.p4, ?_⟩, ?_, ?_⟩
  · intro a b hd hl; exact hk.p1 a b (by unfold Dn at *; by_cases e : a = i; subst e; exact .inr ⟨rfl, hl⟩; omega) hl
  · intro c hc; obtain ⟨a, b, h1, h2, h3⟩ := hk.p2 c hc; exact ⟨a, b, by unfold Dn at *; omega, h2, h3⟩
  · intro a b a' b' hd hl hd' hl' he
    exact hk.p3 a b a' b' (by unfold Dn at *; by_cases e : a = i; subst e; exact .inr ⟨rfl, hl⟩; omega) hl (by unfold Dn at *; by_cases e : a' = i; subst e; exact .inr ⟨rfl, hl'⟩; omega) hl' he
  · intro a b hd hl; exact hk.p5 a b (by unfold Dn at *; by_cases e : a = i; subst e; exact .inr ⟨rfl, hl⟩; omega) hl
  · intro c hc1 hc2
    rw [hkeep c (by omega)]
    by_cases e : c = i
    · subst e
      have := h.inv.p4 c
      simp only [rd, Int.toNat_natCast] at hc
      omega
    · exact h.pos c hc1 (by omega)
  · intro a ha
    by_cases e : a = i
    · subst e
      by_cases h1 : -100 ≤ Go.Proofs.Ytdiljpnfochndaa.HP.wor l a ∧ Go.Proofs.Ytdiljpnfochndaa.HP.wor l a ≤ 100
      · refine ⟨h1.1, h1.2, fun hp => ?_⟩
        by_cases h2 : Go.Proofs.Ytdiljpnfochndaa.HP.wor l a = 0
        · exact h2
        · exact absurd (.inr (.inr ⟨hp, h2⟩)) hc
      · exact absurd (.inr (.inl h1)) hc
    · exact h.wor a (by omega)
theorem nodes_go {l : List Nd} (hT : TK l) (d : Nat) : ∀ (i : Nat) (dep : List Int), l.length - i = d → i ≤ l.length → NInv l i dep → ∃ dep', nodesStep l.length i (l.drop i) dep = some dep' := by
  induction d with
  | zero =>
    intro i dep hd hi h
    rw [List.drop_eq_nil_of_le (by omega)]
    exact ⟨dep, rfl⟩
  | succ d ih =>
    intro i dep hd hi h
    have hlt : i < l.length := by omega
    rw [nodes_at _ _ _ _ hlt]
    have hw := hT.wor i hlt
    have hc : ¬ ((0 < (i : Int) ∧ rd dep i = 0) ∨ ¬ (-100 ≤ wor l i ∧ wor l i ≤ 100) ∨ (0 < (kid l i).length ∧ wor l i ≠ 0)) := by
      rintro (⟨h1, h2⟩ | h1 | ⟨h1, h2⟩)
      · obtain ⟨a, b, ha, hb, he⟩ := hT.cov i (by omega) hlt
        have hk := hT.kin a b ha hb
        have := h.inv.p1 a b (by unfold Dn; omega) hb
        rw [he] at this
        have h4 := h.inv.p4 a
        have h5 := this.2.2
        simp only [rd, Int.toNat_natCast] at h5 h2
        omega
      · exact h1 ⟨hw.1, hw.2.1⟩
      · exact h2 (hw.2.2 h1)
    rw [if_neg hc]
    obtain ⟨dep1, h1⟩ := kids_go hT hlt _ 0 dep rfl (Nat.zero_le _) h.inv (Nat.zero_le _)
    rw [List.drop_zero] at h1
    rw [h1]
    exact ih (i + 1) dep1 (by omega) (by omega) (node_step hlt h hc h1)
theorem cnt_all {dep : List Int} (h0 : dep.getD 0 0 ≤ 0) (h : ∀ c : Nat, 1 ≤ c → c < dep.length → 0 < dep.getD c 0) (hl : 1 ≤ dep.length) : 1 + cnt dep = dep.length := by
  cases dep with
  | nil => simp at hl
  | cons a r =>
    simp only [List.getD_cons_zero] at h0
    have : r.countP (fun x => decide (0 < x)) = r.length := by
      rw [List.countP_eq_length]
      intro x hx
      obtain ⟨i, hi, rfl⟩ := List.mem_iff_getElem.1 hx
      have := h (i + 1) (by omega) (by simp; omega)
      simp only [List.getD_cons_succ] at this
      rw [List.getD_eq_getElem?_getD, List.getElem?_eq_getElem hi] at this
      simpa using this
    simp only [cnt, List.countP_cons, this, List.length_cons]
    rw [if_neg (by simpa using h0)]
    omega
theorem TK.game {l : List Nd} (hT : TK l) : ∃ dep, gameOf l = some dep := by
  have hz : ∀ c : Nat, (List.replicate l.length (0 : Int)).getD c 0 = 0 := by
    intro c; rw [List.getD_eq_getElem?_getD, List.getElem?_replicate]; split <;> rfl
  have hI : NInv l 0 (List.replicate l.length 0) := ⟨⟨by simp, fun a b hd => by unfold Dn at hd; omega, fun c hc => by rw [hz] at hc; omega, fun a b a' b' hd => by unfold Dn at hd; omega, fun c => by rw [hz]; omega, fun a b hd => by unfold Dn at hd; omega⟩, fun c h1 h2 => by omega, fun a ha => by omega⟩
  obtain ⟨dep, hd⟩ := nodes_go hT _ 0 _ rfl (Nat.zero_le _) hI
  have hE := nodes_inv _ 0 _ dep rfl (Nat.zero_le _) hI hd
  rw [List.drop_zero] at hd
  refine ⟨dep, ?_⟩
  unfold gameOf
  rw [if_pos ⟨hT.n1, hT.n60⟩]
  have hd' : nodesStep (l.length : Int) 0 l (List.replicate l.length 0) = some dep := hd
  rw [hd', Option.bind_some, if_pos]
  rw [← hE.inv.len]
  exact cnt_all (by have := hE.inv.p4 0; omega) (fun c h1 h2 => hE.pos c h1 (by rw [← hE.inv.len]; exact h2)) (by rw [hE.inv.len]; exact hT.n1)
end Go.Proofs.Ytdiljpnfochndaa.HP
/- The trees that the statements make. -/
namespace Go.Proofs.Ytdiljpnfochndaa.HP
def modM (x n : Int) : Int := (x % 18446744073709551616) % n
theorem modM_bd (x : Int) {n : Int} (h : 0 < n) : 0 ≤ modM x n ∧ modM x n < n := ⟨Int.emod_nonneg _ (by omega), Int.emod_lt_of_pos _ h⟩
def addKid (c : List (List Int)) (p : Nat) : List (List Int) := (c ++ [[]]).set p (c.getD p [] ++ [(c.length : Int)])
def chM (ps : List Int) : Nat → List (List Int)
  | 0 => [[]]
  | i + 1 => addKid (chM ps i) (modM (ps.getD i 0) (i + 1)).toNat
theorem chM_len (ps : List Int) : ∀ i, (chM ps i).length = i + 1
  | 0 => rfl
  | i + 1 => by simp [chM, addKid, chM_len ps i]
def kk (c : List (List Int)) (a b : Nat) : Int := (c.getD a []).getD b 0
structure CI (c : List (List Int)) : Prop where
  kin : ∀ a b : Nat, a < c.length → b < (c.getD a []).length → (a : Int) < kk c a b ∧ kk c a b < c.length
  inj : ∀ a b a' b' : Nat, a < c.length → b < (c.getD a []).length → a' < c.length → b' < (c.getD a' []).length → kk c a b = kk c a' b' → a = a' ∧ b = b'
  cov : ∀ x : Nat, 1 ≤ x → x < c.length → ∃ a b : Nat, a < c.length ∧ b < (c.getD a []).length ∧ kk c a b = x
theorem addKid_len (c : List (List Int)) (p : Nat) : (addKid c p).length = c.length + 1 := by simp [addKid]
theorem addKid_p {c : List (List Int)} {p : Nat} (hp : p < c.length) : (addKid c p).getD p [] = c.getD p [] ++ [(c.length : Int)] := by
  rw [addKid, List.getD_eq_getElem?_getD, List.getElem?_set_self (by simp; omega)]
  rfl
theorem addKid_ne {c : List (List Int)} {p a : Nat} (h : a ≠ p) (ha : a < c.length) : (addKid c p).getD a [] = c.getD a [] := by
  rw [addKid, List.getD_eq_getElem?_getD, List.getElem?_set_ne (Ne.symm h), List.getElem?_append_left ha, ← List.getD_eq_getElem?_getD]
theorem addKid_new {c : List (List Int)} {p : Nat} (hp : p < c.length) : (addKid c p).getD c.length [] = [] := by
  rw [addKid, List.getD_eq_getElem?_getD, List.getElem?_set_ne (by omega), List.getElem?_append_right (Nat.le_refl _)]
  simp
theorem snoc_getD {xs : List Int} {z : Int} {b : Nat} (h : b < (xs ++ [z]).length) : (xs ++ [z]).getD b 0 = if b < xs.length then xs.getD b 0 else z := by
  split
  · rename_i hb
    rw [List.getD_eq_getElem?_getD, List.getElem?_append_left hb, ← List.getD_eq_getElem?_getD]
  · rename_i hb
    have : b = xs.length := by simp at h; omega
    subst this
    simp [List.getD_eq_getElem?_getD]
/-- Where a child stands. -/
theorem addKid_at {c : List (List Int)} {p a b : Nat} (hp : p < c.length) (ha : a < (addKid c p).length) (hb : b < ((addKid c p).getD a []).length) :
    (a < c.length ∧ b < (c.getD a []).length ∧ kk (addKid c p) a b = kk c a b) ∨ (a = p ∧ b = (c.getD p []).length ∧ kk (addKid c p) a b = c.length) := by
  rw [addKid_len] at ha
  by_cases e : a = p
  · subst e
    unfold kk
    rw [addKid_p hp] at hb ⊢
    have := snoc_getD hb
    split at this
    · rename_i hl; exact .inl ⟨hp, hl, this⟩
    · rename_i hl; exact .inr ⟨rfl, by rw [List.length_append, List.length_singleton] at hb; omega, this⟩
  · by_cases e2 : a = c.length
    · subst e2
      rw [addKid_new hp] at hb
      simp at hb
    · have ha' : a < c.length := by omega
      unfold kk
      rw [addKid_ne e ha'] at hb ⊢
      exact .inl ⟨ha', hb, rfl⟩
theorem CI.add {c : List (List Int)} (h : CI c) {p : Nat} (hp : p < c.length) : CI (addKid c p) := by
  refine ⟨fun a b ha hb => ?_, fun a b a' b' ha hb ha' hb' he => ?_, fun x h1 h2 => ?_⟩
  · rw [addKid_len]
    rcases addKid_at hp ha hb with ⟨h1, h2, h3⟩ | ⟨h1, h2, h3⟩
    · have := h.kin a b h1 h2
      rw [h3]
      omega
    · rw [h3]; omega
  · rcases addKid_at hp ha hb with ⟨h1, h2, h3⟩ | ⟨h1, h2, h3⟩ <;> rcases addKid_at hp ha' hb' with ⟨q1, q2, q3⟩ | ⟨q1, q2, q3⟩
    · rw [h3, q3] at he; exact h.inj a b a' b' h1 h2 q1 q2 he
    · rw [h3, q3] at he; have := h.kin a b h1 h2; omega
    · rw [h3, q3] at he; have := h.kin a' b' q1 q2; omega
    · exact ⟨by omega, by omega⟩
  · rw [addKid_len] at h2
    by_cases e : x = c.length
    · subst e
      refine ⟨p, (c.getD p []).length, by rw [addKid_len]; omega, by rw [addKid_p hp]; simp, ?_⟩
      unfold kk
      rw [addKid_p hp]
      simp [List.getD_eq_getElem?_getD]
    · obtain ⟨a, b, ha, hb, hk⟩ := h.cov x h1 (by omega)
      refine ⟨a, b, by rw [addKid_len]; omega, ?_, ?_⟩
      · by_cases e : a = p
        · subst e; rw [addKid_p hp, List.length_append, List.length_singleton]; omega
        · rw [addKid_ne e ha]; exact hb
      · unfold kk at hk ⊢
        by_cases e : a = p
        · subst e
          rw [addKid_p hp, snoc_getD (by rw [List.length_append, List.length_singleton]; omega), if_pos hb]
          exact hk
        · rw [addKid_ne e ha]; exact hk
theorem chM_CI (ps : List Int) : ∀ i, CI (chM ps i)
  | 0 => ⟨fun a b ha hb => by
      have : a = 0 := by simp [chM] at ha; omega
      subst this
      simp [chM] at hb, fun a b a' b' ha hb => by
      have : a = 0 := by simp [chM] at ha; omega
      subst this
      simp [chM] at hb, fun x h1 h2 => by simp [chM] at h2; omega⟩
  | i + 1 => (chM_CI ps i).add (by
      have := modM_bd (ps.getD i 0) (n := (i : Int) + 1) (by omega)
      rw [chM_len]
      omega)
def rounds (ps : List Int) (most : Nat) : Nat := min (most - 1) ps.length
def tameN (ps ws : List Int) (c : List (List Int)) (i : Nat) : Nd := (c.getD i [], if (c.getD i []).length = 0 ∧ i < ws.length then modM (ws.getD i 0) 201 - 100 else 0)
def tameM (ps ws : List Int) (most : Nat) : List Nd := (List.range (rounds ps most + 1)).map (tameN ps ws (chM ps (rounds ps most)))
theorem tameM_len (ps ws : List Int) (most : Nat) : (tameM ps ws most).length = rounds ps most + 1 := by simp [tameM]
theorem tameM_at {ps ws : List Int} {most i : Nat} (h : i < rounds ps most + 1) : (tameM ps ws most).getD i ([], 0) = tameN ps ws (chM ps (rounds ps most)) i := by
  simp [tameM, List.getD_eq_getElem?_getD, h]
theorem tame_kid {ps ws : List Int} {most i : Nat} (h : i < rounds ps most + 1) : kid (tameM ps ws most) i = (chM ps (rounds ps most)).getD i [] := by
  unfold kid
  rw [Int.toNat_natCast, tameM_at h]
  rfl
theorem tame_TK {ps ws : List Int} {most : Nat} (h0 : 1 ≤ most) (hm : most ≤ 60) : TK (tameM ps ws most) := by
  have hci := chM_CI ps (rounds ps most)
  have hl := chM_len ps (rounds ps most)
  have hr : rounds ps most + 1 ≤ 60 := by unfold rounds; omega
  refine ⟨by rw [tameM_len]; omega, by rw [tameM_len]; omega, fun a b ha hb => ?_, fun a b a' b' ha hb ha' hb' he => ?_, fun c h1 h2 => ?_, fun a ha => ?_⟩
  · rw [tameM_len] at ha ⊢
    rw [tame_kid ha] at hb
    have := hci.kin a b (by omega) hb
    unfold k_
    rw [tame_kid ha]
    unfold kk at this
    rw [hl] at this
    exact this
  · rw [tameM_len] at ha ha'
    rw [tame_kid ha] at hb
    rw [tame_kid ha'] at hb'
    unfold k_ at he
    rw [tame_kid ha, tame_kid ha'] at he
    exact hci.inj a b a' b' (by omega) hb (by omega) hb' he
  · rw [tameM_len] at h2
    obtain ⟨a, b, ha, hb, he⟩ := hci.cov c h1 (by omega)
    have ha' : a < rounds ps most + 1 := by omega
    refine ⟨a, b, by rw [tameM_len]; omega, by rw [tame_kid ha']; exact hb, ?_⟩
    unfold k_
    rw [tame_kid ha']
    exact he
  · rw [tameM_len] at ha
    rw [tame_kid ha]
    have hw : wor (tameM ps ws most) a = (tameN ps ws (chM ps (rounds ps most)) a).2 := by unfold wor; rw [Int.toNat_natCast, tameM_at ha]
    rw [hw]
    simp only [tameN]
    have := modM_bd (ws.getD a 0) (n := 201) (by omega)
    split
    · exact ⟨by omega, by omega, fun h => by omega⟩
    · exact ⟨by omega, by omega, fun _ => rfl⟩
end Go.Proofs.Ytdiljpnfochndaa.HP
namespace Go.Proofs.Ytdiljpnfochndaa
open Go Go.RowKit Go.Proofs.Ytdiljpnfochndaa.VW
open Go.Proofs.Ytdiljpnfochndaa.HP (Nd kid wor leafB rd modM modM_bd chM chM_len rounds tameM tameN addKid)
attribute [local irreducible] W Ops
theorem wrap_u (x : Int) : IntKind.u64.wrap x = x % 18446744073709551616 := by
  simp [IntKind.wrap, IntKind.bits, IntKind.signed]
theorem wrap_i {x : Int} (h0 : 0 ≤ x) (h1 : x < 9223372036854775808) : IntKind.i64.wrap x = x := by
  have : x % 18446744073709551616 = x := by omega
  simp [IntKind.wrap, IntKind.bits, IntKind.signed, this]
  omega
theorem mod_c (x n : Int) (w : World) (h0 : 0 < n) (h1 : n < 9223372036854775808) : Calls Try.prog 34 #[.int .i64 x, .int .i64 n] w (Ret fun r w' => r = .int .i64 (modM x n) ∧ w' = w) := by
  refine calls_W (vs := [_, _]) Try.func34 rfl (by kernel_rfl) rfl ?_
  (repeat (first | with_reducible refine W.seq ?_ | with_reducible refine Ops.nil ?_ | with_reducible refine W.region ?_ | refine z_p (kk := ?_) | refine z_a (kk := ?_) | refine z_y (kk := ?_) | refine z_n (kk := ?_) | refine z_u (kk := ?_) | with_reducible refine W.skip ?_ | with_reducible refine W.endb ?_ | with_reducible refine W.block ?_ | refine W.exit rfl ?_ | refine z_l (kk := ?_) | refine z_f (kk := ?_) | refine z_M (kk := ?_) | refine z_m (kk := ?_) | refine z_e (kk := ?_) | refine z_E (kk := ?_) | refine z_d (kk := ?_)))
  refine Ops.cv rfl rfl rfl rfl rfl rfl ?_
  (repeat (first | with_reducible refine W.seq ?_ | with_reducible refine Ops.nil ?_ | with_reducible refine W.region ?_ | refine z_p (kk := ?_) | refine z_a (kk := ?_) | refine z_y (kk := ?_) | refine z_n (kk := ?_) | refine z_u (kk := ?_) | with_reducible refine W.skip ?_ | with_reducible refine W.endb ?_ | with_reducible refine W.block ?_ | refine W.exit rfl ?_ | refine z_l (kk := ?_) | refine z_f (kk := ?_) | refine z_M (kk := ?_) | refine z_m (kk := ?_) | refine z_e (kk := ?_) | refine z_E (kk := ?_) | refine z_d (kk := ?_)))
  refine Ops.cv rfl rfl rfl rfl rfl rfl ?_
  have hn : IntKind.u64.wrap n = n := by rw [wrap_u]; omega
  refine Ops.remK rfl rfl rfl rfl rfl (by rw [hn]; omega) ?_
  refine Ops.cv rfl rfl rfl rfl rfl rfl ?_
  (repeat (first | with_reducible refine W.seq ?_ | with_reducible refine Ops.nil ?_ | with_reducible refine W.region ?_ | refine z_p (kk := ?_) | refine z_a (kk := ?_) | refine z_y (kk := ?_) | refine z_n (kk := ?_) | refine z_u (kk := ?_) | with_reducible refine W.skip ?_ | with_reducible refine W.endb ?_ | with_reducible refine W.block ?_ | refine W.exit rfl ?_ | refine z_l (kk := ?_) | refine z_f (kk := ?_) | refine z_M (kk := ?_) | refine z_m (kk := ?_) | refine z_e (kk := ?_) | refine z_E (kk := ?_) | refine z_d (kk := ?_)))
  refine W.fret rfl ⟨?_, rfl⟩
  have hb := modM_bd x h0
  show Value.int .i64 _ = _
  rw [hn, wrap_u, Int.tmod_eq_emod_of_nonneg (Int.emod_nonneg _ (by omega))]
  exact congrArg _ (wrap_i hb.1 (Int.lt_trans hb.2 h1))
def pickL (p : Nat → Bool) (n : Nat) : List Int := ((List.range n).filter p).map fun (i : Nat) => (i : Int)
theorem pickL_succ (p : Nat → Bool) (n : Nat) : pickL p (n + 1) = pickL p n ++ if p n then [(n : Int)] else [] := by
  unfold pickL
  rw [List.range_succ, List.filter_append, List.map_append]
  congr 1
  by_cases h : p n <;> simp [h]
theorem pickL_len (p : Nat → Bool) (n : Nat) : (pickL p n).length ≤ n := by
  unfold pickL
  rw [List.length_map]
  exact Nat.le_trans (List.length_filter_le _ _) (by simp)
theorem leafB_len (l : List Nd) (i : Int) : leafB l i = (((kid l i).length : Int) == 0) := by
  unfold leafB
  cases kid l i with
  | nil => rfl
  | cons a r => simp; omega
def someP (l : List Nd) (os : List Int) (i : Nat) : Bool := leafB l i && decide (i < os.length) && (modM (os.getD i 0) 2 == 1)
theorem some_c {w : World} {v ov : Value} {l : List Nd} {os : List Int} (hT : TreeM w v l) (hn : l.length ≤ 60) (ho : SlI w ov os) :
    Calls Try.prog 36 #[v, ov] w (Ret fun r w' => FInv w w' r (pickL (someP l os) l.length)) := by
  obtain ⟨A, c, rfl⟩ := hT.sl
  have hol := Sl.len ho
  obtain ⟨A2, c2, rfl⟩ := Sl.sl ho
  refine calls_W (vs := [_, _]) Try.func36 rfl (by kernel_rfl) rfl ?_
  (repeat (first | with_reducible refine W.seq ?_ | with_reducible refine Ops.nil ?_ | with_reducible refine W.region ?_ | refine z_p (kk := ?_) | refine z_a (kk := ?_) | refine z_y (kk := ?_) | refine z_n (kk := ?_) | refine z_u (kk := ?_) | with_reducible refine W.skip ?_ | with_reducible refine W.endb ?_ | with_reducible refine W.block ?_ | refine W.exit rfl ?_ | refine z_l (kk := ?_) | refine z_f (kk := ?_) | refine z_M (kk := ?_) | refine z_m (kk := ?_) | refine z_e (kk := ?_) | refine z_E (kk := ?_) | refine z_d (kk := ?_)))
  refine W.loop (fun m ρ w3 => ∃ (j : Nat) (lv : Value), m = l.length - j ∧ j ≤ l.length ∧ ρ = [(0, .slice A l.length c), (1, .slice A2 os.length c2), (5, lv), (6, .int .i64 j)] ∧ FInv w w3 lv (pickL (someP l os) j))
    ⟨_, _, ⟨0, _, rfl, Nat.zero_le _, rfl, FInv.nil (Below.refl _ _)⟩, (by repeat (first | exact trivial | refine And.intro rfl ?_))⟩ ?_
  rintro m ρ w3 ⟨j, lv, rfl, hj, rfl, hI⟩
  have hb3 := hI.bel
  have ho3 := Sl.below ho hb3
  have hpl := pickL_len (someP l os) j
  (repeat (first | with_reducible refine W.seq ?_ | with_reducible refine Ops.nil ?_ | with_reducible refine W.region ?_ | refine z_p (kk := ?_) | refine z_a (kk := ?_) | refine z_y (kk := ?_) | refine z_n (kk := ?_) | refine z_u (kk := ?_) | with_reducible refine W.skip ?_ | with_reducible refine W.endb ?_ | with_reducible refine W.block ?_ | refine W.exit rfl ?_ | refine z_l (kk := ?_) | refine z_f (kk := ?_) | refine z_M (kk := ?_) | refine z_m (kk := ?_) | refine z_e (kk := ?_) | refine z_E (kk := ?_) | refine z_d (kk := ?_)))
  refine W.cond rfl (fun hc => ?_) (fun hc => ?_)
  · have hlt : j < l.length := by simp at hc; omega
    (repeat (first | with_reducible refine W.seq ?_ | with_reducible refine Ops.nil ?_ | with_reducible refine W.region ?_ | refine z_p (kk := ?_) | refine z_a (kk := ?_) | refine z_y (kk := ?_) | refine z_n (kk := ?_) | refine z_u (kk := ?_) | with_reducible refine W.skip ?_ | with_reducible refine W.endb ?_ | with_reducible refine W.block ?_ | refine W.exit rfl ?_ | refine z_l (kk := ?_) | refine z_f (kk := ?_) | refine z_M (kk := ?_) | refine z_m (kk := ?_) | refine z_e (kk := ?_) | refine z_E (kk := ?_) | refine z_d (kk := ?_)))
    refine Ops.rdK rfl rfl rfl rfl rfl rfl rfl rfl rfl rfl rfl rfl rfl rfl rfl hT hb3 (by omega) (by omega) (fun cv p q hcv => ?_)
    obtain ⟨Ac, cc, rfl⟩ := Sl.sl hcv
    refine Ops.cut (fun ρ w' => ∃ b : Bool, ρ = [(0, .slice A l.length c), (1, .slice A2 os.length c2), (5, lv), (6, .int .i64 j), (33, .bool b)] ∧ w' = w3 ∧ b = someP l os j) ?_ ?_
    · (repeat' (first | with_reducible refine W.seq ?_ | with_reducible refine Ops.nil ?_ | with_reducible refine W.region ?_ | refine z_p (kk := ?_) | refine z_a (kk := ?_) | refine z_y (kk := ?_) | refine z_n (kk := ?_) | refine z_u (kk := ?_) | with_reducible refine W.skip ?_ | with_reducible refine W.endb ?_ | with_reducible refine W.block ?_ | refine W.exit rfl ?_ | refine z_l (kk := ?_) | refine z_f (kk := ?_) | refine z_M (kk := ?_) | refine z_m (kk := ?_) | refine z_e (kk := ?_) | refine z_E (kk := ?_) | refine z_d (kk := ?_) | refine Ops.gdT rfl rfl rfl rfl (fun _ => ?_) (fun _ => ?_) | refine Ops.gdF rfl rfl rfl rfl (fun _ => ?_) (fun _ => ?_) | refine Ops.callS rfl rfl rfl rfl rfl (mod_c _ _ _ (by decide) (by decide)) ?_ | (refine Ops.rdSg (enc := Value.int .i64) (z := (0 : Int)) rfl rfl rfl rfl rfl rfl rfl rfl rfl rfl rfl rfl rfl rfl ho3 (by omega) (by rename_i hh; simp at hh; omega) (fun p => ?_))))
      all_goals refine W.endl ⟨_, ⟨_, rfl, rfl, ?_⟩, (by repeat (first | exact trivial | refine And.intro rfl ?_))⟩
      all_goals clear ho ho3 hI hT hcv
      · rename_i h1 h2
        unfold someP
        rw [leafB_len, h1, show decide (j < os.length) = true by simpa using h2]
        rfl
      · rename_i h1 h2
        unfold someP
        rw [leafB_len, h1, show decide (j < os.length) = false by simpa using h2]
        rfl
      · rename_i h1
        unfold someP
        rw [leafB_len, h1]
        rfl
    · rintro ρ w4 ⟨b, rfl, rfl, hb⟩
      (repeat (first | with_reducible refine W.seq ?_ | with_reducible refine Ops.nil ?_ | with_reducible refine W.region ?_ | refine z_p (kk := ?_) | refine z_a (kk := ?_) | refine z_y (kk := ?_) | refine z_n (kk := ?_) | refine z_u (kk := ?_) | with_reducible refine W.skip ?_ | with_reducible refine W.endb ?_ | with_reducible refine W.block ?_ | refine W.exit rfl ?_ | refine z_l (kk := ?_) | refine z_f (kk := ?_) | refine z_M (kk := ?_) | refine z_m (kk := ?_) | refine z_e (kk := ?_) | refine z_E (kk := ?_) | refine z_d (kk := ?_)))
      have hs := pickL_succ (someP l os) j
      rw [← hb] at hs
      refine W.cond rfl (fun hc2 => ?_) (fun hc2 => ?_)
      · rw [hc2, if_pos rfl] at hs
        (repeat (first | with_reducible refine W.seq ?_ | with_reducible refine Ops.nil ?_ | with_reducible refine W.region ?_ | refine z_p (kk := ?_) | refine z_a (kk := ?_) | refine z_y (kk := ?_) | refine z_n (kk := ?_) | refine z_u (kk := ?_) | with_reducible refine W.skip ?_ | with_reducible refine W.endb ?_ | with_reducible refine W.block ?_ | refine W.exit rfl ?_ | refine z_l (kk := ?_) | refine z_f (kk := ?_) | refine z_M (kk := ?_) | refine z_m (kk := ?_) | refine z_e (kk := ?_) | refine z_E (kk := ?_) | refine z_d (kk := ?_)))
        refine Ops.push rfl rfl rfl rfl rfl rfl rfl rfl rfl rfl rfl rfl (fun _ => rfl) rfl hI.own (by omega) (fun lv' p w5 ho5 k5 hn5 => ?_)
        have hI5 := hI.push ho5 k5 hn5
        rw [← hs] at hI5
        (repeat (first | with_reducible refine W.seq ?_ | with_reducible refine Ops.nil ?_ | with_reducible refine W.region ?_ | refine z_p (kk := ?_) | refine z_a (kk := ?_) | refine z_y (kk := ?_) | refine z_n (kk := ?_) | refine z_u (kk := ?_) | with_reducible refine W.skip ?_ | with_reducible refine W.endb ?_ | with_reducible refine W.block ?_ | refine W.exit rfl ?_ | refine z_l (kk := ?_) | refine z_f (kk := ?_) | refine z_M (kk := ?_) | refine z_m (kk := ?_) | refine z_e (kk := ?_) | refine z_E (kk := ?_) | refine z_d (kk := ?_)))
        exact W.endl ⟨_, _, ⟨⟨j + 1, _, rfl, by omega, rfl, hI5⟩, by omega⟩, (by repeat (first | exact trivial | refine And.intro rfl ?_))⟩
      · rw [hc2, if_neg (by simp), List.append_nil] at hs
        rw [← hs] at hI
        (repeat (first | with_reducible refine W.seq ?_ | with_reducible refine Ops.nil ?_ | with_reducible refine W.region ?_ | refine z_p (kk := ?_) | refine z_a (kk := ?_) | refine z_y (kk := ?_) | refine z_n (kk := ?_) | refine z_u (kk := ?_) | with_reducible refine W.skip ?_ | with_reducible refine W.endb ?_ | with_reducible refine W.block ?_ | refine W.exit rfl ?_ | refine z_l (kk := ?_) | refine z_f (kk := ?_) | refine z_M (kk := ?_) | refine z_m (kk := ?_) | refine z_e (kk := ?_) | refine z_E (kk := ?_) | refine z_d (kk := ?_)))
        exact W.endl ⟨_, _, ⟨⟨j + 1, _, rfl, by omega, rfl, hI⟩, by omega⟩, (by repeat (first | exact trivial | refine And.intro rfl ?_))⟩
  · have hlt : j = l.length := by simp at hc; omega
    subst hlt
    (repeat (first | with_reducible refine W.seq ?_ | with_reducible refine Ops.nil ?_ | with_reducible refine W.region ?_ | refine z_p (kk := ?_) | refine z_a (kk := ?_) | refine z_y (kk := ?_) | refine z_n (kk := ?_) | refine z_u (kk := ?_) | with_reducible refine W.skip ?_ | with_reducible refine W.endb ?_ | with_reducible refine W.block ?_ | refine W.exit rfl ?_ | refine z_l (kk := ?_) | refine z_f (kk := ?_) | refine z_M (kk := ?_) | refine z_m (kk := ?_) | refine z_e (kk := ?_) | refine z_E (kk := ?_) | refine z_d (kk := ?_)))
    exact W.fret rfl hI
end Go.Proofs.Ytdiljpnfochndaa
namespace Go.Proofs.Ytdiljpnfochndaa
open Go Go.RowKit Go.Proofs.Ytdiljpnfochndaa.VW
open Go.Proofs.Ytdiljpnfochndaa.HP (Nd kid wor leafB rd modM modM_bd chM chM_len rounds tameM tameN addKid tameM_len tameM_at)
attribute [local irreducible] W Ops
/-- Slices of numbers of the call's own, each in its own block, in a slice of the call's own. -/
structure LL (w0 w : World) (ov : Value) (c : List (List Int)) (svs : List Value) : Prop where
  bel : Below w0.heap.size w0 w
  ge : ∀ k, ov.ownBlock = some k → w0.heap.size ≤ k
  row : w.ownsRow 0 24 1 ov c.length svs
  own : ∀ j, j < c.length → w.ownsRow 0 3 1 (svs.getD j undef) (c.getD j []).length ((c.getD j []).map (Value.int .i64))
  sep : ∀ j, j < c.length → ∀ k, (svs.getD j undef).ownBlock = some k → w0.heap.size ≤ k ∧ ov.ownBlock ≠ some k
  two : ∀ j j', j < c.length → j' < c.length → j ≠ j' → ∀ k, (svs.getD j undef).ownBlock = some k → (svs.getD j' undef).ownBlock ≠ some k
theorem LL.len {w0 w : World} {ov : Value} {c : List (List Int)} {svs : List Value} (h : LL w0 w ov c svs) : svs.length = c.length := by have := h.row.1; omega
theorem LL.kp {w0 w w' : World} {ov : Value} {c : List (List Int)} {svs : List Value} {S : Nat → Prop} (h : LL w0 w ov c svs) (k : Kp S w w') (hs : ∀ i, S i → w0.heap.size ≤ i ∧ ov.ownBlock ≠ some i ∧ ∀ j, j < c.length → (svs.getD j undef).ownBlock ≠ some i) : LL w0 w' ov c svs :=
  ⟨Below.at_ h.bel k (fun i hi => (hs i hi).1), h.ge, own_kp h.row k (fun i hi e => (hs i e).2.1 hi), fun j hj => own_kp (h.own j hj) k (fun i hi e => (hs i e).2.2 j hj hi), h.sep, h.two⟩
theorem LL.fresh {w0 w w' : World} {ov : Value} {c : List (List Int)} {svs : List Value} {S : Nat → Prop} (h : LL w0 w ov c svs) (k : Kp S w w') (hs : ∀ i, S i → w.heap.size ≤ i) : LL w0 w' ov c svs :=
  h.kp k fun i hi => ⟨by have := h.bel.size; have := hs i hi; omega, fun e => by have := (h.row.lt i e).2; have := hs i hi; omega, fun j hj e => by have := ((h.own j hj).lt i e).2; have := hs i hi; omega⟩
theorem app_getD {α : Type} {xs : List α} {z d : α} {j : Nat} (h : j < xs.length) : (xs ++ [z]).getD j d = xs.getD j d := by rw [List.getD_eq_getElem?_getD, List.getElem?_append_left h, ← List.getD_eq_getElem?_getD]
theorem app_last {α : Type} {xs : List α} {z d : α} {n : Nat} (h : n = xs.length) : (xs ++ [z]).getD n d = z := by subst h; simp [List.getD_eq_getElem?_getD]
/-- An empty one more. -/
theorem LL.pushNil {w0 w w' : World} {ov ov' : Value} {c : List (List Int)} {svs : List Value} (h : LL w0 w ov c svs) (ho : w'.ownsRow 0 24 1 ov' (c.length + 1) (svs ++ [.slice none 0 0])) (k : Kp (fun i => ov.ownBlock = some i) w w')
    (hn : ∀ i, ov'.ownBlock = some i → ov.ownBlock = some i ∨ w.heap.size ≤ i) : LL w0 w' ov' (c ++ [[]]) (svs ++ [.slice none 0 0]) := by
  have hl := h.len
  have hg : ∀ j, j < c.length → (svs ++ [Value.slice none 0 0]).getD j undef = svs.getD j undef ∧ (c ++ [[]]).getD j [] = c.getD j [] := fun j hj => ⟨app_getD (by omega), app_getD hj⟩
  have hlast : (svs ++ [Value.slice none 0 0]).getD c.length undef = .slice none 0 0 ∧ (c ++ [[]]).getD c.length [] = [] := ⟨app_last hl.symm, app_last rfl⟩
  have hb : ∀ i, ov'.ownBlock = some i → w0.heap.size ≤ i := fun i hi => by
    rcases hn i hi with e | e
    · exact h.ge i e
    · have := h.bel.size; omega
  refine ⟨Below.at_ h.bel k (fun i hi => h.ge i hi), hb, by simpa using ho, fun j hj => ?_, fun j hj i hi => ?_, fun j j' hj hj' hne i hi => ?_⟩
  · simp at hj
    by_cases e : j = c.length
    · subst e
      rw [hlast.1, hlast.2]
      exact own_nil _ _ _
    · have hj' : j < c.length := by omega
      rw [(hg j hj').1, (hg j hj').2]
      exact own_kp (h.own j hj') k (fun i hi e => (h.sep j hj' i hi).2 e)
  · simp at hj
    by_cases e : j = c.length
    · subst e
      rw [hlast.1] at hi
      simp [Value.ownBlock] at hi
    · have hj' : j < c.length := by omega
      rw [(hg j hj').1] at hi
      refine ⟨(h.sep j hj' i hi).1, fun e => ?_⟩
      rcases hn i e with e2 | e2
      · exact (h.sep j hj' i hi).2 e2
      · have := ((h.own j hj').lt i hi).2; omega
  · simp at hj hj'
    by_cases e : j = c.length
    · subst e
      rw [hlast.1] at hi
      simp [Value.ownBlock] at hi
    · by_cases e' : j' = c.length
      · subst e'
        rw [hlast.1]
        simp [Value.ownBlock]
      · rw [(hg j (by omega)).1] at hi
        rw [(hg j' (by omega)).1]
        exact h.two j j' (by omega) (by omega) hne i hi
/-- A number more in one of them. -/
theorem LL.grow {w0 w w1 w' : World} {ov lv' : Value} {c : List (List Int)} {svs : List Value} {p : Nat} {x : Int} (h : LL w0 w ov c svs) (hp : p < c.length)
    (ho : w1.ownsRow 0 3 1 lv' ((c.getD p []).length + 1) ((c.getD p []).map (Value.int .i64) ++ [.int .i64 x])) (k : Kp (fun i => (svs.getD p undef).ownBlock = some i) w w1)
    (hn : ∀ i, lv'.ownBlock = some i → (svs.getD p undef).ownBlock = some i ∨ w.heap.size ≤ i) (ho' : w'.ownsRow 0 24 1 ov c.length (svs.set p lv')) (k' : Kp (fun i => ov.ownBlock = some i) w1 w') : LL w0 w' ov (c.set p (c.getD p [] ++ [x])) (svs.set p lv') := by
  have hl := h.len
  have hsep : ∀ i, lv'.ownBlock = some i → w0.heap.size ≤ i ∧ ov.ownBlock ≠ some i := fun i hi => by
    rcases hn i hi with e | e
    · exact h.sep p hp i e
    · have := h.bel.size; exact ⟨by omega, fun e2 => by have := (h.row.lt i e2).2; omega⟩
  refine ⟨Below.at_ (Below.at_ h.bel k (fun i hi => (h.sep p hp i hi).1)) k' (fun i hi => h.ge i hi), h.ge, by simpa using ho', fun j hj => ?_, fun j hj i hi => ?_, fun j j' hj hj' hne i hi => ?_⟩
  · simp at hj
    by_cases e : p = j
    · subst e
      rw [lgetD_set_eq (by omega), lgetD_set_eq (by omega)]
      have := own_kp ho k' (fun i hi e => (hsep i hi).2 e)
      simpa using this
    · rw [lgetD_set_ne e, lgetD_set_ne e]
      exact own_kp (own_kp (h.own j hj) k (fun i hi e2 => h.two p j hp hj e i e2 hi)) k' (fun i hi e2 => (h.sep j hj i hi).2 e2)
  · simp at hj
    by_cases e : p = j
    · subst e
      rw [lgetD_set_eq (by omega)] at hi
      exact hsep i hi
    · rw [lgetD_set_ne e] at hi
      exact h.sep j hj i hi
  · simp at hj hj'
    by_cases e : p = j
    · subst e
      rw [lgetD_set_eq (by omega)] at hi
      rw [lgetD_set_ne hne]
      rcases hn i hi with e2 | e2
      · exact h.two p j' hp hj' hne i e2
      · intro e3; have := ((h.own j' hj').lt i e3).2; omega
    · rw [lgetD_set_ne e] at hi
      by_cases e' : p = j'
      · subst e'
        rw [lgetD_set_eq (by omega)]
        intro e3
        rcases hn i e3 with e4 | e4
        · exact h.two j p hj hp hne i hi e4
        · have := ((h.own j hj).lt i hi).2; omega
      · rw [lgetD_set_ne e']
        exact h.two j j' hj hj' hne i hi
end Go.Proofs.Ytdiljpnfochndaa
namespace Go.Proofs.Ytdiljpnfochndaa
open Go Go.RowKit Go.Proofs.Ytdiljpnfochndaa.VW
open Go.Proofs.Ytdiljpnfochndaa.HP (Nd kid wor leafB rd modM modM_bd chM chM_len rounds tameM tameN addKid tameM_len tameM_at)
attribute [local irreducible] W Ops
theorem chM_sum (ps : List Int) : ∀ i j, ((chM ps i).getD j []).length ≤ i
  | 0, j => by
    cases j with
    | zero => simp [chM]
    | succ j => simp [chM]
  | i + 1, j => by
    have hp : (modM (ps.getD i 0) (i + 1)).toNat < (chM ps i).length := by
      have := modM_bd (ps.getD i 0) (n := (i : Int) + 1) (by omega)
      rw [chM_len]; omega
    have hl := chM_len ps i
    simp only [chM]
    by_cases e : j = (modM (ps.getD i 0) (i + 1)).toNat
    · subst e
      rw [Go.Proofs.Ytdiljpnfochndaa.HP.addKid_p hp, List.length_append, List.length_singleton]
      have := chM_sum ps i (modM (ps.getD i 0) (i + 1)).toNat
      omega
    · by_cases hj : j < (chM ps i).length
      · rw [Go.Proofs.Ytdiljpnfochndaa.HP.addKid_ne e hj]
        have := chM_sum ps i j
        omega
      · by_cases hj2 : j = (chM ps i).length
        · subst hj2
          rw [Go.Proofs.Ytdiljpnfochndaa.HP.addKid_new hp]
          simp
        · rw [List.getD_eq_getElem?_getD, List.getElem?_eq_none (by rw [Go.Proofs.Ytdiljpnfochndaa.HP.addKid_len]; omega)]
          simp
theorem gapp {α : Type} {xs ys : List α} {i : Nat} {d : α} (h : i < xs.length) : (xs ++ ys).getD i d = xs.getD i d := by rw [List.getD_eq_getElem?_getD, List.getElem?_append_left h, ← List.getD_eq_getElem?_getD]
set_option maxRecDepth 100000 in
theorem tame_c {w : World} {pv wv : Value} {ps ws : List Int} {most : Nat} (hp : SlI w pv ps) (hw : SlI w wv ws) (h1 : 1 ≤ most) (hm : most ≤ 60) :
    Calls Try.prog 33 #[pv, wv, .int .i64 most] w (Ret fun r w' => TreeM w' r (tameM ps ws most) ∧ Below w.heap.size w w') := by
  have hpl := Sl.len hp
  have hwl := Sl.len hw
  obtain ⟨Ap, cp, rfl⟩ := Sl.sl hp
  obtain ⟨Aw, cw, rfl⟩ := Sl.sl hw
  refine calls_W (vs := [_, _, _]) Try.func33 rfl (by kernel_rfl) rfl ?_
  (repeat (first | with_reducible refine W.seq ?_ | with_reducible refine Ops.nil ?_ | with_reducible refine W.region ?_ | refine z_p (kk := ?_) | refine z_a (kk := ?_) | refine z_y (kk := ?_) | refine z_n (kk := ?_) | refine z_u (kk := ?_) | with_reducible refine W.skip ?_ | with_reducible refine W.endb ?_ | with_reducible refine W.block ?_ | refine W.exit rfl ?_ | refine z_l (kk := ?_) | refine z_f (kk := ?_) | refine z_M (kk := ?_) | refine z_m (kk := ?_) | refine z_e (kk := ?_) | refine z_E (kk := ?_) | refine z_d (kk := ?_)))
  refine Ops.push rfl rfl rfl rfl rfl rfl rfl rfl rfl rfl rfl rfl (fun _ => rfl) rfl (own_nil w 24 1) (by omega) (fun ov p w1 ho1 k1 hn1 => ?_)
  have hL1 : LL w w1 ov (chM ps 0) [.slice none 0 0] := by
    have h0 : LL w w (.slice none 0 0) [] [] := ⟨Below.refl _ _, fun k hk => by simp [Value.ownBlock] at hk, own_nil _ _ _, fun j hj => by simp at hj, fun j hj => by simp at hj, fun j j' hj => by simp at hj⟩
    exact h0.pushNil ho1 k1 hn1
  (repeat (first | with_reducible refine W.seq ?_ | with_reducible refine Ops.nil ?_ | with_reducible refine W.region ?_ | refine z_p (kk := ?_) | refine z_a (kk := ?_) | refine z_y (kk := ?_) | refine z_n (kk := ?_) | refine z_u (kk := ?_) | with_reducible refine W.skip ?_ | with_reducible refine W.endb ?_ | with_reducible refine W.block ?_ | refine W.exit rfl ?_ | refine z_l (kk := ?_) | refine z_f (kk := ?_) | refine z_M (kk := ?_) | refine z_m (kk := ?_) | refine z_e (kk := ?_) | refine z_E (kk := ?_) | refine z_d (kk := ?_)))
  refine W.loop (fun m ρ w3 => ∃ (j : Nat) (ov : Value) (svs : List Value), m = rounds ps most - j ∧ j ≤ rounds ps most ∧ ρ = [(0, .slice Ap ps.length cp), (1, .slice Aw ws.length cw), (2, .int .i64 most), (7, ov), (8, .int .i64 (j + 1))] ∧ LL w w3 ov (chM ps j) svs)
    ⟨_, _, ⟨0, _, _, rfl, Nat.zero_le _, rfl, hL1⟩, (by repeat (first | exact trivial | refine And.intro rfl ?_))⟩ ?_
  clear hL1 hn1 k1 ho1
  rintro m ρ w3 ⟨j, ov, svs, rfl, hj, rfl, hL⟩
  have hrd : rounds ps most = min (most - 1) ps.length := rfl
  (repeat (first | with_reducible refine W.seq ?_ | with_reducible refine Ops.nil ?_ | with_reducible refine W.region ?_ | refine z_p (kk := ?_) | refine z_a (kk := ?_) | refine z_y (kk := ?_) | refine z_n (kk := ?_) | refine z_u (kk := ?_) | with_reducible refine W.skip ?_ | with_reducible refine W.endb ?_ | with_reducible refine W.block ?_ | refine W.exit rfl ?_ | refine z_l (kk := ?_) | refine z_f (kk := ?_) | refine z_M (kk := ?_) | refine z_m (kk := ?_) | refine z_e (kk := ?_) | refine z_E (kk := ?_) | refine z_d (kk := ?_)))
  refine Ops.cut (fun ρ w' => ∃ b : Bool, ρ = [(0, .slice Ap ps.length cp), (1, .slice Aw ws.length cw), (2, .int .i64 most), (7, ov), (8, .int .i64 (j + 1)), (25, .bool b)] ∧ w' = w3 ∧ (b = true ↔ j < rounds ps most)) ?_ ?_
  · (repeat' (first | with_reducible refine W.seq ?_ | with_reducible refine Ops.nil ?_ | with_reducible refine W.region ?_ | refine z_p (kk := ?_) | refine z_a (kk := ?_) | refine z_y (kk := ?_) | refine z_n (kk := ?_) | refine z_u (kk := ?_) | with_reducible refine W.skip ?_ | with_reducible refine W.endb ?_ | with_reducible refine W.block ?_ | refine W.exit rfl ?_ | refine z_l (kk := ?_) | refine z_f (kk := ?_) | refine z_M (kk := ?_) | refine z_m (kk := ?_) | refine z_e (kk := ?_) | refine z_E (kk := ?_) | refine z_d (kk := ?_) | refine Ops.gdT rfl rfl rfl rfl (fun _ => ?_) (fun _ => ?_) | refine Ops.gdF rfl rfl rfl rfl (fun _ => ?_) (fun _ => ?_)))
    all_goals refine W.endl ⟨_, ⟨_, rfl, rfl, ?_⟩, (by repeat (first | exact trivial | refine And.intro rfl ?_))⟩
    · rename_i h; simp at h ⊢; omega
    · rename_i h; simp at h ⊢; omega
  · rintro ρ w4 ⟨b, rfl, rfl, hb⟩
    refine W.cond rfl (fun hc => ?_) (fun hc => ?_)
    · have hlt := hb.1 hc
      have hmp := modM_bd (ps.getD j 0) (n := (j : Int) + 1) (by omega)
      have hcl := chM_len ps j
      have hadd : chM ps (j + 1) = ((chM ps j) ++ [[]]).set (modM (ps.getD j 0) (j + 1)).toNat ((chM ps j).getD (modM (ps.getD j 0) (j + 1)).toNat [] ++ [((j : Int) + 1)]) := by
        simp only [chM, addKid, hcl]
        rfl
      have hsum := chM_sum ps j (modM (ps.getD j 0) (j + 1)).toNat
      (repeat (first | with_reducible refine W.seq ?_ | with_reducible refine Ops.nil ?_ | with_reducible refine W.region ?_ | refine z_p (kk := ?_) | refine z_a (kk := ?_) | refine z_y (kk := ?_) | refine z_n (kk := ?_) | refine z_u (kk := ?_) | with_reducible refine W.skip ?_ | with_reducible refine W.endb ?_ | with_reducible refine W.block ?_ | refine W.exit rfl ?_ | refine z_l (kk := ?_) | refine z_f (kk := ?_) | refine z_M (kk := ?_) | refine z_m (kk := ?_) | refine z_e (kk := ?_) | refine z_E (kk := ?_) | refine z_d (kk := ?_)))
      refine Ops.rdS (enc := Value.int .i64) (z := (0 : Int)) rfl rfl rfl rfl rfl rfl rfl rfl rfl rfl rfl (Sl.below hp hL.bel) (by omega) (by omega) (fun p => ?_)
      rw [show ((j : Int) + 1 - 1).toNat = j by omega]
      (repeat (first | with_reducible refine W.seq ?_ | with_reducible refine Ops.nil ?_ | with_reducible refine W.region ?_ | refine z_p (kk := ?_) | refine z_a (kk := ?_) | refine z_y (kk := ?_) | refine z_n (kk := ?_) | refine z_u (kk := ?_) | with_reducible refine W.skip ?_ | with_reducible refine W.endb ?_ | with_reducible refine W.block ?_ | refine W.exit rfl ?_ | refine z_l (kk := ?_) | refine z_f (kk := ?_) | refine z_M (kk := ?_) | refine z_m (kk := ?_) | refine z_e (kk := ?_) | refine z_E (kk := ?_) | refine z_d (kk := ?_)))
      refine Ops.callS rfl rfl rfl rfl rfl (mod_c _ _ _ (by omega) (by omega)) ?_
      generalize modM (ps.getD j 0) (j + 1) = pp at *
      obtain ⟨q, rfl⟩ := Int.eq_ofNat_of_zero_le hmp.1
      (repeat (first | with_reducible refine W.seq ?_ | with_reducible refine Ops.nil ?_ | with_reducible refine W.region ?_ | refine z_p (kk := ?_) | refine z_a (kk := ?_) | refine z_y (kk := ?_) | refine z_n (kk := ?_) | refine z_u (kk := ?_) | with_reducible refine W.skip ?_ | with_reducible refine W.endb ?_ | with_reducible refine W.block ?_ | refine W.exit rfl ?_ | refine z_l (kk := ?_) | refine z_f (kk := ?_) | refine z_M (kk := ?_) | refine z_m (kk := ?_) | refine z_e (kk := ?_) | refine z_E (kk := ?_) | refine z_d (kk := ?_)))
      refine Ops.push rfl rfl rfl rfl rfl rfl rfl rfl rfl rfl rfl rfl (fun _ => rfl) rfl hL.row (by omega) (fun ov2 p2 w5 ho5 k5 hn5 => ?_)
      have hL5 := hL.pushNil ho5 k5 hn5
      have hcl5 : (chM ps j ++ [[]]).length = j + 2 := by simp [hcl]
      have hgq : (chM ps j ++ [[]]).getD q [] = (chM ps j).getD q [] := app_getD (by omega)
      have hrow5 := hL5.row
      rw [hcl5] at hrow5
      obtain ⟨g, cap, cur, rfl, hBd, hszd⟩ := own_blk hrow5 (by omega)
      have hcell := own_cell hrow5 (a := q * 1) (b := 0) (by omega) (by omega)
      (repeat (first | with_reducible refine W.seq ?_ | with_reducible refine Ops.nil ?_ | with_reducible refine W.region ?_ | refine z_p (kk := ?_) | refine z_a (kk := ?_) | refine z_y (kk := ?_) | refine z_n (kk := ?_) | refine z_u (kk := ?_) | with_reducible refine W.skip ?_ | with_reducible refine W.endb ?_ | with_reducible refine W.block ?_ | refine W.exit rfl ?_ | refine z_l (kk := ?_) | refine z_f (kk := ?_) | refine z_M (kk := ?_) | refine z_m (kk := ?_) | refine z_e (kk := ?_) | refine z_E (kk := ?_) | refine z_d (kk := ?_)))
      refine Ops.idx rfl rfl rfl rfl rfl rfl rfl (by omega) (by omega) (Ops.ld rfl rfl rfl rfl rfl (v := (svs ++ [Value.slice none 0 0]).getD q undef) (by simpa [add_lit] using hcell) ?_)
      have hownq := hL5.own q (by omega)
      rw [hgq] at hownq
      generalize hlvq : (svs ++ [Value.slice none 0 0]).getD q undef = lv at *
      (repeat (first | with_reducible refine W.seq ?_ | with_reducible refine Ops.nil ?_ | with_reducible refine W.region ?_ | refine z_p (kk := ?_) | refine z_a (kk := ?_) | refine z_y (kk := ?_) | refine z_n (kk := ?_) | refine z_u (kk := ?_) | with_reducible refine W.skip ?_ | with_reducible refine W.endb ?_ | with_reducible refine W.block ?_ | refine W.exit rfl ?_ | refine z_l (kk := ?_) | refine z_f (kk := ?_) | refine z_M (kk := ?_) | refine z_m (kk := ?_) | refine z_e (kk := ?_) | refine z_E (kk := ?_) | refine z_d (kk := ?_)))
      simp only [Int.toNat_natCast] at hsum
      refine Ops.push rfl rfl rfl rfl rfl rfl rfl rfl rfl rfl rfl rfl (fun _ => rfl) rfl hownq (by omega) (fun lv2 p3 w6 ho6 k6 hn6 => ?_)
      have hB6 : Blk w6 g cur 24 := hBd.kp k6 (fun e => (hL5.sep q (by omega) g (by rw [hlvq]; exact e)).2 rfl)
      have hrow6 := own_kp hrow5 k6 (fun i hi e => (hL5.sep q (by omega) i (by rw [hlvq]; exact e)).2 hi)
      have hone2 : lv2.oneCell' = true := by obtain ⟨A, c, h⟩ := Sl.sl (own_sl (enc := Value.int .i64) (z := (0 : Int)) (xs := (chM ps j).getD q [] ++ [(j : Int) + 1]) (by simpa using ho6)); rw [h]; rfl
      refine Ops.idx rfl rfl rfl rfl rfl rfl rfl (by omega) (by omega) ?_
      rw [add_lit, Nat.zero_add]
      refine Ops.st rfl rfl rfl rfl rfl rfl hone2 hB6 (by simp; omega) (fun w7 hu7 => ?_)
      have hset := own_set hrow6 hB6 hu7
      have hL7 : LL w w7 (.slice (some ⟨g, 0, none⟩) (j + 2) cap) (chM ps (j + 1)) ((svs ++ [Value.slice none 0 0]).set q lv2) := by
        rw [hadd]
        have := hL5.grow (p := q) (x := (j : Int) + 1) (lv' := lv2) (w' := w7) (by omega) (by rw [hgq]; exact ho6) (by rw [hlvq]; exact k6) (by rw [hlvq]; exact hn6) (by rw [hcl5]; simpa using hset) (hu7.kp.mono (fun i _ e => by simp [Value.ownBlock, e]))
        rw [hgq] at this
        exact this
      (repeat (first | with_reducible refine W.seq ?_ | with_reducible refine Ops.nil ?_ | with_reducible refine W.region ?_ | refine z_p (kk := ?_) | refine z_a (kk := ?_) | refine z_y (kk := ?_) | refine z_n (kk := ?_) | refine z_u (kk := ?_) | with_reducible refine W.skip ?_ | with_reducible refine W.endb ?_ | with_reducible refine W.block ?_ | refine W.exit rfl ?_ | refine z_l (kk := ?_) | refine z_f (kk := ?_) | refine z_M (kk := ?_) | refine z_m (kk := ?_) | refine z_e (kk := ?_) | refine z_E (kk := ?_) | refine z_d (kk := ?_)))
      exact W.endl ⟨_, _, ⟨⟨j + 1, _, _, rfl, by omega, rfl, hL7⟩, by omega⟩, (by repeat (first | exact trivial | refine And.intro rfl ?_))⟩
    · have hlt : j = rounds ps most := by have := hb.2; rw [hc] at this; simp at this; omega
      subst hlt
      clear hb hj
      have hcl := chM_len ps (rounds ps most)
      have hrl : rounds ps most ≤ 59 := by omega
      generalize hR : rounds ps most = R at *
      generalize hC : chM ps R = C at *
      have hrow := hL.row
      rw [hcl] at hrow
      obtain ⟨g, cap, rfl, hcell⟩ := own_at hrow (by omega)
      (repeat (first | with_reducible refine W.seq ?_ | with_reducible refine Ops.nil ?_ | with_reducible refine W.region ?_ | refine z_p (kk := ?_) | refine z_a (kk := ?_) | refine z_y (kk := ?_) | refine z_n (kk := ?_) | refine z_u (kk := ?_) | with_reducible refine W.skip ?_ | with_reducible refine W.endb ?_ | with_reducible refine W.block ?_ | refine W.exit rfl ?_ | refine z_l (kk := ?_) | refine z_f (kk := ?_) | refine z_M (kk := ?_) | refine z_m (kk := ?_) | refine z_e (kk := ?_) | refine z_E (kk := ?_) | refine z_d (kk := ?_)))
      refine W.loop (fun m ρ w5 => ∃ (j : Nat) (ov2 : Value) (xs : List Value), m = R + 1 - j ∧ j ≤ R + 1 ∧ ρ = [(1, .slice Aw ws.length cw), (7, .slice (some ⟨g, 0, none⟩) (R + 1) cap), (11, ov2), (12, .int .i64 j)] ∧ Below w4.heap.size w4 w5 ∧
          w5.ownsRow 0 47 2 ov2 j xs ∧ (∀ k, ov2.ownBlock = some k → w4.heap.size ≤ k) ∧ ∀ i, i < j → xs.getD (i * 2) undef = svs.getD i undef ∧ xs.getD (i * 2 + 1) undef = .int .i64 (tameN ps ws C i).2)
        ⟨_, _, ⟨0, _, [], rfl, Nat.zero_le _, rfl, Below.refl _ _, own_nil _ _ _, fun k hk => by simp [Value.ownBlock] at hk, fun i hi => by omega⟩, (by repeat (first | exact trivial | refine And.intro rfl ?_))⟩ ?_
      rintro m ρ w5 ⟨j, ov2, xs, rfl, hj, rfl, hb5, hown2, hge2, hxs⟩
      have hL5 := hL.fresh (Kp.of_below (S := fun _ => False) hb5) (fun _ e => e.elim)
      have hrow5 := hL5.row
      rw [hcl] at hrow5
      (repeat (first | with_reducible refine W.seq ?_ | with_reducible refine Ops.nil ?_ | with_reducible refine W.region ?_ | refine z_p (kk := ?_) | refine z_a (kk := ?_) | refine z_y (kk := ?_) | refine z_n (kk := ?_) | refine z_u (kk := ?_) | with_reducible refine W.skip ?_ | with_reducible refine W.endb ?_ | with_reducible refine W.block ?_ | refine W.exit rfl ?_ | refine z_l (kk := ?_) | refine z_f (kk := ?_) | refine z_M (kk := ?_) | refine z_m (kk := ?_) | refine z_e (kk := ?_) | refine z_E (kk := ?_) | refine z_d (kk := ?_)))
      refine W.cond rfl (fun hc => ?_) (fun hc => ?_)
      · have hlt : j < R + 1 := by simp at hc; omega
        have hxl := hown2.1
        have hci := own_cell hrow5 (a := j * 1) (b := 0) (by omega) (by omega)
        have hownj := hL5.own j (by omega)
        obtain ⟨Aj, cj, hsj⟩ := Sl.sl (own_sl (enc := Value.int .i64) (z := (0 : Int)) hownj)
        have hone : (svs.getD j undef).oneCell' = true := by rw [hsj]; rfl
        have hci' : w5.cell? ⟨g, j, none⟩ = some (.slice Aj (C.getD j []).length cj) := by rw [← hsj]; simpa [add_lit] using hci
        (repeat (first | with_reducible refine W.seq ?_ | with_reducible refine Ops.nil ?_ | with_reducible refine W.region ?_ | refine z_p (kk := ?_) | refine z_a (kk := ?_) | refine z_y (kk := ?_) | refine z_n (kk := ?_) | refine z_u (kk := ?_) | with_reducible refine W.skip ?_ | with_reducible refine W.endb ?_ | with_reducible refine W.block ?_ | refine W.exit rfl ?_ | refine z_l (kk := ?_) | refine z_f (kk := ?_) | refine z_M (kk := ?_) | refine z_m (kk := ?_) | refine z_e (kk := ?_) | refine z_E (kk := ?_) | refine z_d (kk := ?_)))
        refine Ops.idx rfl rfl rfl rfl rfl rfl rfl (by omega) (by omega) (Ops.ld rfl rfl rfl rfl rfl (v := .slice Aj (C.getD j []).length cj) (by simpa [add_lit] using hci') ?_)
        refine Ops.bldG (cs := #[.slice Aj (C.getD j []).length cj, .int .i64 0]) rfl rfl rfl rfl rfl rfl (by kernel_rfl) ?_
        refine Ops.alloc rfl rfl rfl rfl (fun w6 b hM => ?_)
        refine Ops.st2 rfl rfl rfl rfl rfl rfl rfl rfl hM.at_ (fun w7 hu7 => ?_)
        have hbe := hM.r_eq
        have k7 : Kp (fun i => w5.heap.size ≤ i) w5 w7 := (hM.kp.trans hu7.kp).mono (fun i _ e => by rcases e with e | e; exact e.elim; omega)
        have hci7 : w7.cell? ⟨g, j, none⟩ = some (.slice Aj (C.getD j []).length cj) := cell_kp k7 hci' (fun e => by
          have e2 : w5.heap.size ≤ g := e
          have := (hL5.row.lt g rfl).2
          omega)
        have hB7 := hu7.blk
        have hw7 := Sl.below hw (hL5.bel.trans ((Below.at_ (Below.refl _ _) k7 (fun i hi => hi)).mono hL5.bel.size))
        have htn : (tameN ps ws C j).2 = if (C.getD j []).length = 0 ∧ j < ws.length then modM (ws.getD j 0) 201 - 100 else 0 := rfl
        have hmb := modM_bd (ws.getD j 0) (n := 201) (by omega)
        (repeat (first | with_reducible refine W.seq ?_ | with_reducible refine Ops.nil ?_ | with_reducible refine W.region ?_ | refine z_p (kk := ?_) | refine z_a (kk := ?_) | refine z_y (kk := ?_) | refine z_n (kk := ?_) | refine z_u (kk := ?_) | with_reducible refine W.skip ?_ | with_reducible refine W.endb ?_ | with_reducible refine W.block ?_ | refine W.exit rfl ?_ | refine z_l (kk := ?_) | refine z_f (kk := ?_) | refine z_M (kk := ?_) | refine z_m (kk := ?_) | refine z_e (kk := ?_) | refine z_E (kk := ?_) | refine z_d (kk := ?_)))
        refine Ops.idx rfl rfl rfl rfl rfl rfl rfl (by omega) (by omega) (Ops.ld rfl rfl rfl rfl rfl (v := .slice Aj (C.getD j []).length cj) (by simpa [add_lit] using hci7) ?_)
        refine Ops.cut (fun ρ w' => ∃ b' : Bool, ρ = [(1, .slice Aw ws.length cw), (7, .slice (some ⟨g, 0, none⟩) (R + 1) cap), (11, ov2), (12, .int .i64 j), (13, .pointer (some ⟨b, 0, none⟩)), (71, .bool b')] ∧ w' = w7 ∧ (b' = true ↔ (C.getD j []).length = 0 ∧ j < ws.length)) ?_ ?_
        · (repeat' (first | with_reducible refine W.seq ?_ | with_reducible refine Ops.nil ?_ | with_reducible refine W.region ?_ | refine z_p (kk := ?_) | refine z_a (kk := ?_) | refine z_y (kk := ?_) | refine z_n (kk := ?_) | refine z_u (kk := ?_) | with_reducible refine W.skip ?_ | with_reducible refine W.endb ?_ | with_reducible refine W.block ?_ | refine W.exit rfl ?_ | refine z_l (kk := ?_) | refine z_f (kk := ?_) | refine z_M (kk := ?_) | refine z_m (kk := ?_) | refine z_e (kk := ?_) | refine z_E (kk := ?_) | refine z_d (kk := ?_) | refine Ops.gdT rfl rfl rfl rfl (fun _ => ?_) (fun _ => ?_) | refine Ops.gdF rfl rfl rfl rfl (fun _ => ?_) (fun _ => ?_)))
          all_goals refine W.endl ⟨_, ⟨_, rfl, rfl, ?_⟩, (by repeat (first | exact trivial | refine And.intro rfl ?_))⟩
          · rename_i h
            have h' : (C.getD j []).length = 0 := by simpa using h
            simp only [h', true_and, decide_eq_true_eq]
            omega
          · rename_i h
            have h' : ¬ (C.getD j []).length = 0 := by simpa using h
            exact ⟨fun h => by simp at h, fun h => absurd h.1 h'⟩
        · rintro ρ w8 ⟨b', rfl, rfl, hb'⟩
          refine W.cut (fun ρ w' => ∃ z, ρ = [(1, .slice Aw ws.length cw), (7, .slice (some ⟨g, 0, none⟩) (R + 1) cap), (11, ov2), (12, .int .i64 j), (13, .pointer (some ⟨b, 0, none⟩))] ∧ Kp (fun i => w5.heap.size ≤ i) w5 w' ∧ z = (tameN ps ws C j).2 ∧ Blk w' b #[.slice Aj (C.getD j []).length cj, .int .i64 z] 47) ?_ ?_
          · refine W.cond rfl (fun hc => ?_) (fun hc => ?_)
            · have h2 := hb'.1 hc
              (repeat (first | with_reducible refine W.seq ?_ | with_reducible refine Ops.nil ?_ | with_reducible refine W.region ?_ | refine z_p (kk := ?_) | refine z_a (kk := ?_) | refine z_y (kk := ?_) | refine z_n (kk := ?_) | refine z_u (kk := ?_) | with_reducible refine W.skip ?_ | with_reducible refine W.endb ?_ | with_reducible refine W.block ?_ | refine W.exit rfl ?_ | refine z_l (kk := ?_) | refine z_f (kk := ?_) | refine z_M (kk := ?_) | refine z_m (kk := ?_) | refine z_e (kk := ?_) | refine z_E (kk := ?_) | refine z_d (kk := ?_)))
              refine Ops.rdS (enc := Value.int .i64) (z := (0 : Int)) rfl rfl rfl rfl rfl rfl rfl rfl rfl rfl rfl hw7 (by omega) (by omega) (fun p => ?_)
              simp only [Int.toNat_natCast]
              (repeat (first | with_reducible refine W.seq ?_ | with_reducible refine Ops.nil ?_ | with_reducible refine W.region ?_ | refine z_p (kk := ?_) | refine z_a (kk := ?_) | refine z_y (kk := ?_) | refine z_n (kk := ?_) | refine z_u (kk := ?_) | with_reducible refine W.skip ?_ | with_reducible refine W.endb ?_ | with_reducible refine W.block ?_ | refine W.exit rfl ?_ | refine z_l (kk := ?_) | refine z_f (kk := ?_) | refine z_M (kk := ?_) | refine z_m (kk := ?_) | refine z_e (kk := ?_) | refine z_E (kk := ?_) | refine z_d (kk := ?_)))
              refine Ops.callS rfl rfl rfl rfl rfl (mod_c _ _ _ (by decide) (by decide)) ?_
              (repeat (first | with_reducible refine W.seq ?_ | with_reducible refine Ops.nil ?_ | with_reducible refine W.region ?_ | refine z_p (kk := ?_) | refine z_a (kk := ?_) | refine z_y (kk := ?_) | refine z_n (kk := ?_) | refine z_u (kk := ?_) | with_reducible refine W.skip ?_ | with_reducible refine W.endb ?_ | with_reducible refine W.block ?_ | refine W.exit rfl ?_ | refine z_l (kk := ?_) | refine z_f (kk := ?_) | refine z_M (kk := ?_) | refine z_m (kk := ?_) | refine z_e (kk := ?_) | refine z_E (kk := ?_) | refine z_d (kk := ?_)))
              refine Ops.st rfl rfl rfl rfl rfl rfl rfl hB7 (by simp) (fun w9 hu9 => ?_)
              (repeat (first | with_reducible refine W.seq ?_ | with_reducible refine Ops.nil ?_ | with_reducible refine W.region ?_ | refine z_p (kk := ?_) | refine z_a (kk := ?_) | refine z_y (kk := ?_) | refine z_n (kk := ?_) | refine z_u (kk := ?_) | with_reducible refine W.skip ?_ | with_reducible refine W.endb ?_ | with_reducible refine W.block ?_ | refine W.exit rfl ?_ | refine z_l (kk := ?_) | refine z_f (kk := ?_) | refine z_M (kk := ?_) | refine z_m (kk := ?_) | refine z_e (kk := ?_) | refine z_E (kk := ?_) | refine z_d (kk := ?_)))
              exact W.endl ⟨_, ⟨_, rfl, (k7.trans hu9.kp).mono (fun i _ e => by rcases e with e | e; exact e; omega), by rw [htn, if_pos h2], hu9.blk⟩, (by repeat (first | exact trivial | refine And.intro rfl ?_))⟩
            · (repeat (first | with_reducible refine W.seq ?_ | with_reducible refine Ops.nil ?_ | with_reducible refine W.region ?_ | refine z_p (kk := ?_) | refine z_a (kk := ?_) | refine z_y (kk := ?_) | refine z_n (kk := ?_) | refine z_u (kk := ?_) | with_reducible refine W.skip ?_ | with_reducible refine W.endb ?_ | with_reducible refine W.block ?_ | refine W.exit rfl ?_ | refine z_l (kk := ?_) | refine z_f (kk := ?_) | refine z_M (kk := ?_) | refine z_m (kk := ?_) | refine z_e (kk := ?_) | refine z_E (kk := ?_) | refine z_d (kk := ?_)))
              exact W.endl ⟨_, ⟨_, rfl, k7, by rw [htn, if_neg (fun h => by have := hb'.2 h; rw [hc] at this; simp at this)], hB7⟩, (by repeat (first | exact trivial | refine And.intro rfl ?_))⟩
          · rintro ρ w9 ⟨z, rfl, k9, hz, hB9⟩
            (repeat (first | with_reducible refine W.seq ?_ | with_reducible refine Ops.nil ?_ | with_reducible refine W.region ?_ | refine z_p (kk := ?_) | refine z_a (kk := ?_) | refine z_y (kk := ?_) | refine z_n (kk := ?_) | refine z_u (kk := ?_) | with_reducible refine W.skip ?_ | with_reducible refine W.endb ?_ | with_reducible refine W.block ?_ | refine W.exit rfl ?_ | refine z_l (kk := ?_) | refine z_f (kk := ?_) | refine z_M (kk := ?_) | refine z_m (kk := ?_) | refine z_e (kk := ?_) | refine z_E (kk := ?_) | refine z_d (kk := ?_)))
            refine Ops.ld2 rfl rfl rfl rfl rfl rfl (hB9.cell rfl) (by rw [add_lit]; exact hB9.cell rfl) ?_
            refine Ops.push2 rfl rfl rfl rfl rfl rfl rfl rfl rfl rfl rfl (fun _ => rfl) rfl rfl (own_kp hown2 k9 (fun i hi e => by have := (hown2.lt i hi).2; omega)) (by omega) (fun lv' p w10 ho10 k10 hn10 => ?_)
            have hb9 : Below w4.heap.size w4 w9 := Below.at_ hb5 k9 (fun i hi => by have := hb5.size; omega)
            (repeat (first | with_reducible refine W.seq ?_ | with_reducible refine Ops.nil ?_ | with_reducible refine W.region ?_ | refine z_p (kk := ?_) | refine z_a (kk := ?_) | refine z_y (kk := ?_) | refine z_n (kk := ?_) | refine z_u (kk := ?_) | with_reducible refine W.skip ?_ | with_reducible refine W.endb ?_ | with_reducible refine W.block ?_ | refine W.exit rfl ?_ | refine z_l (kk := ?_) | refine z_f (kk := ?_) | refine z_M (kk := ?_) | refine z_m (kk := ?_) | refine z_e (kk := ?_) | refine z_E (kk := ?_) | refine z_d (kk := ?_)))
            refine W.endl ⟨_, _, ⟨⟨j + 1, _, _, rfl, by omega, rfl, Below.at_ hb9 k10 (fun i hi => hge2 i hi), ho10, fun k hk => ?_, fun i hi => ?_⟩, by omega⟩, (by repeat (first | exact trivial | refine And.intro rfl ?_))⟩
            · rcases hn10 k hk with e | e
              · exact hge2 k e
              · have := hb9.size; omega
            · by_cases e : i = j
              · subst e
                refine ⟨?_, ?_⟩
                · rw [List.getD_eq_getElem?_getD, List.getElem?_append_right (by omega), hsj]; simp [hxl]
                · rw [List.getD_eq_getElem?_getD, List.getElem?_append_right (by omega), ← hz]; simp [hxl]
              · have := hxs i (by omega)
                rw [gapp (by omega), gapp (by omega)]
                exact this
      · have hlt : j = R + 1 := by simp at hc; omega
        subst hlt
        (repeat (first | with_reducible refine W.seq ?_ | with_reducible refine Ops.nil ?_ | with_reducible refine W.region ?_ | refine z_p (kk := ?_) | refine z_a (kk := ?_) | refine z_y (kk := ?_) | refine z_n (kk := ?_) | refine z_u (kk := ?_) | with_reducible refine W.skip ?_ | with_reducible refine W.endb ?_ | with_reducible refine W.block ?_ | refine W.exit rfl ?_ | refine z_l (kk := ?_) | refine z_f (kk := ?_) | refine z_M (kk := ?_) | refine z_m (kk := ?_) | refine z_e (kk := ?_) | refine z_E (kk := ?_) | refine z_d (kk := ?_)))
        obtain ⟨g2, cap2, rfl, hc2⟩ := own_at hown2 (by omega)
        have hlen : (tameM ps ws most).length = R + 1 := by rw [tameM_len, hR]
        have hat : ∀ i, i < R + 1 → (tameM ps ws most).getD i ([], 0) = tameN ps ws C i := fun i hi => by rw [tameM_at (by omega), hR, hC]
        refine W.fret rfl ⟨⟨some ⟨g2, 0, none⟩, cap2, svs, by rw [hlen]; rfl, fun _ => ⟨_, rfl, fun i hi => ?_⟩, fun i hi => ?_⟩, hL5.bel⟩
        · rw [hlen] at hi
          have := hxs i hi
          rw [add_lit, add_lit, Nat.zero_add, hat i hi]
          exact ⟨by rw [hc2 _ (by omega), this.1], by rw [hc2 _ (by omega), this.2]⟩
        · rw [hlen] at hi
          rw [hat i hi]
          exact own_sl (z := (0 : Int)) (hL5.own i (by omega))
end Go.Proofs.Ytdiljpnfochndaa
/- Values: more for the leaves is not less for the root. -/
namespace Go.Proofs.Ytdiljpnfochndaa.HP
theorem foldl_mono {f : Int → Int → Int} (hf : ∀ a b c d, a ≤ b → c ≤ d → f a c ≤ f b d) : ∀ (cs : List Int) (g h : Int → Int) (a b : Int), a ≤ b → (∀ c ∈ cs, g c ≤ h c) → (cs.map g).foldl f a ≤ (cs.map h).foldl f b
  | [], _, _, _, _, hab, _ => hab
  | c :: r, g, h, a, b, hab, hc => foldl_mono hf r g h _ _ (hf _ _ _ _ hab (hc c (by simp))) fun x hx => hc x (by simp [hx])
theorem maxL_mono (cs : List Int) (g h : Int → Int) (hc : ∀ c ∈ cs, g c ≤ h c) : maxL (cs.map g) ≤ maxL (cs.map h) := by
  cases cs with
  | nil => simp [maxL]
  | cons c r => exact foldl_mono (fun a b c d h1 h2 => by omega) r g h _ _ (hc c (by simp)) fun x hx => hc x (by simp [hx])
theorem minL_mono (cs : List Int) (g h : Int → Int) (hc : ∀ c ∈ cs, g c ≤ h c) : minL (cs.map g) ≤ minL (cs.map h) := by
  cases cs with
  | nil => simp [minL]
  | cons c r => exact foldl_mono (fun a b c d h1 h2 => by omega) r g h _ _ (hc c (by simp)) fun x hx => hc x (by simp [hx])
theorem val_mono {l : List Nd} {dep : List Int} (hT : TF l dep) {f g : Int → Int} {vs us : List Int} (hv : ValP l dep f vs) (hu : ValP l dep g us) (h : ∀ i : Nat, i < l.length → leafB l i = true → f i ≤ g i) : ∀ j : Nat, j < l.length → vs.getD j 0 ≤ us.getD j 0 := by
  have key : ∀ d j : Nat, l.length - j = d → j < l.length → vs.getD j 0 ≤ us.getD j 0 := by
    intro d
    induction d using Nat.strongRecOn with
    | _ d ih =>
      intro j hd hj
      have hk : ∀ c ∈ kid l j, rd vs c ≤ rd us c := fun c hc => by
        obtain ⟨h1, h2⟩ := mem_kid hT hj hc
        exact ih (l.length - c.toNat) (by omega) c.toNat rfl (by omega)
      rw [hv.at_ j hj, hu.at_ j hj]
      unfold NV
      split
      · rename_i hl; exact h j hj hl
      · split
        · exact maxL_mono _ _ _ hk
        · exact minL_mono _ _ _ hk
  exact fun j hj => key _ j rfl hj
end Go.Proofs.Ytdiljpnfochndaa.HP
namespace Go.Proofs.Ytdiljpnfochndaa
open Go Go.RowKit Go.Proofs.Ytdiljpnfochndaa.VW
open Go.Proofs.Ytdiljpnfochndaa.HP (Nd kid wor leafB rd modM modM_bd chM chM_len rounds tameM tameN addKid tameM_len tameM_at tame_TK gameOf gameOf_TF ValP far)
attribute [local irreducible] W Ops
theorem pickL_mem {p : Nat → Bool} {n : Nat} {x : Int} : x ∈ pickL p n ↔ ∃ i : Nat, i < n ∧ p i = true ∧ x = i := by
  simp only [pickL, List.mem_map, List.mem_filter, List.mem_range]
  exact ⟨fun ⟨i, h, e⟩ => ⟨i, h.1, h.2, e.symm⟩, fun ⟨i, h1, h2, e⟩ => ⟨i, ⟨h1, h2⟩, e.symm⟩⟩
theorem pickL_up (p : Nat → Bool) (n : Nat) : (pickL p n).Pairwise (· < ·) := by
  unfold pickL
  rw [List.pairwise_map]
  exact ((List.pairwise_lt_range (n := n)).filter _).imp fun h => by omega
theorem up_listed {l : List Nd} {xs : List Int} (hu : xs.Pairwise (· < ·)) (hm : ∀ x ∈ xs, 0 ≤ x ∧ x < l.length ∧ leafB l x = true) : Listed l xs := by
  intro k hk
  have hx : xs.getD k 0 ∈ xs := by
    rw [List.getD_eq_getElem?_getD, List.getElem?_eq_getElem hk]
    exact List.getElem_mem hk
  obtain ⟨h1, h2, h3⟩ := hm _ hx
  refine ⟨h1, by omega, h3, fun h0 => ?_⟩
  have := List.pairwise_iff_getElem.1 hu (k - 1) k (by omega) hk (by omega)
  simpa [List.getD_eq_getElem?_getD, hk, show k - 1 < xs.length by omega] using this
theorem pickL_listed {l : List Nd} {p : Nat → Bool} (hp : ∀ i : Nat, i < l.length → p i = true → leafB l i = true) : Listed l (pickL p l.length) :=
  up_listed (pickL_up p _) fun x hx => by
    obtain ⟨i, h1, h2, rfl⟩ := pickL_mem.1 hx
    exact ⟨by omega, by omega, hp i h1 h2⟩
def moreP (l : List Nd) (os : List Int) (i : Nat) : Bool := leafB l i && decide (i < os.length) && decide (0 < modM (os.getD i 0) 4)
theorem some_more {l : List Nd} {os : List Int} {i : Nat} (h : someP l os i = true) : moreP l os i = true := by
  simp only [someP, moreP, Bool.and_eq_true, beq_iff_eq, decide_eq_true_eq] at h ⊢
  refine ⟨h.1, ?_⟩
  have := h.2
  unfold modM at *
  omega
theorem worst_mono {l : List Nd} (hw : ∀ a : Nat, a < l.length → -100 ≤ wor l a) {xs ys : List Int} (h : ∀ x ∈ xs, x ∈ ys) (i : Nat) (hi : i < l.length) : worstF l xs i ≤ worstF l ys i := by
  unfold worstF
  have := hw i hi
  by_cases h1 : (i : Int) ∈ xs
  · rw [if_pos (by simpa using h1), if_pos (by simpa using h _ h1)]
    omega
  · rw [if_neg (by simpa using h1)]
    split
    · simp only [far]; omega
    · omega
set_option maxRecDepth 100000 in
theorem more_c {w : World} {pv wv ov : Value} {ps ws os : List Int} {b : Int} (hp : SlI w pv ps) (hw : SlI w wv ws) (ho : SlI w ov os) :
    Calls Try.prog 6 #[pv, wv, ov, .int .i64 b] w (Ret fun r w' => r = .bool true ∧ Below w.heap.size w w') := by
  refine calls_W (vs := [_, _, _, _]) Try.func6 rfl (by kernel_rfl) rfl ?_
  (repeat (first | with_reducible refine W.seq ?_ | with_reducible refine Ops.nil ?_ | with_reducible refine W.region ?_ | refine z_p (kk := ?_) | refine z_a (kk := ?_) | refine z_y (kk := ?_) | refine z_n (kk := ?_) | refine z_u (kk := ?_) | with_reducible refine W.skip ?_ | with_reducible refine W.endb ?_ | with_reducible refine W.block ?_ | refine W.exit rfl ?_ | refine z_l (kk := ?_) | refine z_f (kk := ?_) | refine z_M (kk := ?_) | refine z_m (kk := ?_) | refine z_e (kk := ?_) | refine z_E (kk := ?_) | refine z_d (kk := ?_)))
  refine Ops.call rfl rfl rfl rfl rfl (tame_c (most := 60) hp hw (by decide) (by decide)) (fun tv w1 hR => ?_)
  obtain ⟨hT1, hb1⟩ := hR
  have hTK := tame_TK (ps := ps) (ws := ws) (most := 60) (by decide) (by decide)
  generalize tameM ps ws 60 = l at *
  obtain ⟨dep, hg⟩ := hTK.game
  have hTF := gameOf_TF hg
  have hn60 := hTF.n60
  have hn1 := hTF.n1
  have hmb := modM_bd b (n := 201) (by omega)
  (repeat (first | with_reducible refine W.seq ?_ | with_reducible refine Ops.nil ?_ | with_reducible refine W.region ?_ | refine z_p (kk := ?_) | refine z_a (kk := ?_) | refine z_y (kk := ?_) | refine z_n (kk := ?_) | refine z_u (kk := ?_) | with_reducible refine W.skip ?_ | with_reducible refine W.endb ?_ | with_reducible refine W.block ?_ | refine W.exit rfl ?_ | refine z_l (kk := ?_) | refine z_f (kk := ?_) | refine z_M (kk := ?_) | refine z_m (kk := ?_) | refine z_e (kk := ?_) | refine z_E (kk := ?_) | refine z_d (kk := ?_)))
  refine Ops.callS rfl rfl rfl rfl rfl (mod_c _ _ _ (by decide) (by decide)) ?_
  generalize modM b 201 = b' at *
  (repeat (first | with_reducible refine W.seq ?_ | with_reducible refine Ops.nil ?_ | with_reducible refine W.region ?_ | refine z_p (kk := ?_) | refine z_a (kk := ?_) | refine z_y (kk := ?_) | refine z_n (kk := ?_) | refine z_u (kk := ?_) | with_reducible refine W.skip ?_ | with_reducible refine W.endb ?_ | with_reducible refine W.block ?_ | refine W.exit rfl ?_ | refine z_l (kk := ?_) | refine z_f (kk := ?_) | refine z_M (kk := ?_) | refine z_m (kk := ?_) | refine z_e (kk := ?_) | refine z_E (kk := ?_) | refine z_d (kk := ?_)))
  refine Ops.call rfl rfl rfl rfl rfl (some_c hT1 hn60 (Sl.below ho hb1)) (fun sv w2 hI2 => ?_)
  have hb2 := hb1.trans (hI2.bel.mono hb1.size)
  have hT2 := hT1.below hI2.bel
  obtain ⟨At, ct, rfl⟩ := hT2.sl
  have hol := Sl.len ho
  obtain ⟨A2, c2, rfl⟩ := Sl.sl ho
  have hsv := hI2.sl
  have hone : sv.oneCell' = true := by obtain ⟨A, c, h⟩ := Sl.sl hsv; rw [h]; rfl
  (repeat (first | with_reducible refine W.seq ?_ | with_reducible refine Ops.nil ?_ | with_reducible refine W.region ?_ | refine z_p (kk := ?_) | refine z_a (kk := ?_) | refine z_y (kk := ?_) | refine z_n (kk := ?_) | refine z_u (kk := ?_) | with_reducible refine W.skip ?_ | with_reducible refine W.endb ?_ | with_reducible refine W.block ?_ | refine W.exit rfl ?_ | refine z_l (kk := ?_) | refine z_f (kk := ?_) | refine z_M (kk := ?_) | refine z_m (kk := ?_) | refine z_e (kk := ?_) | refine z_E (kk := ?_) | refine z_d (kk := ?_)))
  refine W.loop (fun m ρ w3 => ∃ (j : Nat) (lv : Value), m = l.length - j ∧ j ≤ l.length ∧ ρ = [(2, .slice A2 os.length c2), (3, .int .i64 (b' - 100)), (9, .slice At l.length ct), (10, sv), (11, lv), (12, .int .i64 j)] ∧ FInv w2 w3 lv (pickL (moreP l os) j))
    ⟨_, _, ⟨0, _, rfl, Nat.zero_le _, rfl, FInv.nil (Below.refl _ _)⟩, (by repeat (first | exact trivial | refine And.intro rfl ?_))⟩ ?_
  rintro m ρ w3 ⟨j, lv, rfl, hj, rfl, hI⟩
  have hb3 := hI.bel
  have ho3 := Sl.below ho (hb2.trans (hb3.mono hb2.size))
  have hpl := pickL_len (moreP l os) j
  (repeat (first | with_reducible refine W.seq ?_ | with_reducible refine Ops.nil ?_ | with_reducible refine W.region ?_ | refine z_p (kk := ?_) | refine z_a (kk := ?_) | refine z_y (kk := ?_) | refine z_n (kk := ?_) | refine z_u (kk := ?_) | with_reducible refine W.skip ?_ | with_reducible refine W.endb ?_ | with_reducible refine W.block ?_ | refine W.exit rfl ?_ | refine z_l (kk := ?_) | refine z_f (kk := ?_) | refine z_M (kk := ?_) | refine z_m (kk := ?_) | refine z_e (kk := ?_) | refine z_E (kk := ?_) | refine z_d (kk := ?_)))
  refine W.cond rfl (fun hc => ?_) (fun hc => ?_)
  · have hlt : j < l.length := by simp at hc; omega
    (repeat (first | with_reducible refine W.seq ?_ | with_reducible refine Ops.nil ?_ | with_reducible refine W.region ?_ | refine z_p (kk := ?_) | refine z_a (kk := ?_) | refine z_y (kk := ?_) | refine z_n (kk := ?_) | refine z_u (kk := ?_) | with_reducible refine W.skip ?_ | with_reducible refine W.endb ?_ | with_reducible refine W.block ?_ | refine W.exit rfl ?_ | refine z_l (kk := ?_) | refine z_f (kk := ?_) | refine z_M (kk := ?_) | refine z_m (kk := ?_) | refine z_e (kk := ?_) | refine z_E (kk := ?_) | refine z_d (kk := ?_)))
    refine Ops.rdK rfl rfl rfl rfl rfl rfl rfl rfl rfl rfl rfl rfl rfl rfl rfl hT2 hb3 (by omega) (by omega) (fun cv p q hcv => ?_)
    obtain ⟨Ac, cc, rfl⟩ := Sl.sl hcv
    refine Ops.cut (fun ρ w' => ∃ b : Bool, ρ = [(2, .slice A2 os.length c2), (3, .int .i64 (b' - 100)), (9, .slice At l.length ct), (10, sv), (11, lv), (12, .int .i64 j), (54, .bool b)] ∧ w' = w3 ∧ b = moreP l os j) ?_ ?_
    · (repeat' (first | with_reducible refine W.seq ?_ | with_reducible refine Ops.nil ?_ | with_reducible refine W.region ?_ | refine z_p (kk := ?_) | refine z_a (kk := ?_) | refine z_y (kk := ?_) | refine z_n (kk := ?_) | refine z_u (kk := ?_) | with_reducible refine W.skip ?_ | with_reducible refine W.endb ?_ | with_reducible refine W.block ?_ | refine W.exit rfl ?_ | refine z_l (kk := ?_) | refine z_f (kk := ?_) | refine z_M (kk := ?_) | refine z_m (kk := ?_) | refine z_e (kk := ?_) | refine z_E (kk := ?_) | refine z_d (kk := ?_) | refine Ops.gdT rfl rfl rfl rfl (fun _ => ?_) (fun _ => ?_) | refine Ops.gdF rfl rfl rfl rfl (fun _ => ?_) (fun _ => ?_) | refine Ops.callS rfl rfl rfl rfl rfl (mod_c _ _ _ (by decide) (by decide)) ?_ | (refine Ops.rdSg (enc := Value.int .i64) (z := (0 : Int)) rfl rfl rfl rfl rfl rfl rfl rfl rfl rfl rfl rfl rfl rfl ho3 (by omega) (by rename_i hh; simp at hh; omega) (fun p => ?_))))
      all_goals refine W.endl ⟨_, ⟨_, rfl, rfl, ?_⟩, (by repeat (first | exact trivial | refine And.intro rfl ?_))⟩
      · rename_i h1 h2
        unfold moreP
        rw [leafB_len, h1, show decide (j < os.length) = true by simpa using h2]
        rfl
      · rename_i h1 h2
        unfold moreP
        rw [leafB_len, h1, show decide (j < os.length) = false by simpa using h2]
        rfl
      · rename_i h1
        unfold moreP
        rw [leafB_len, h1]
        rfl
    · rintro ρ w4 ⟨b, rfl, rfl, hb⟩
      (repeat (first | with_reducible refine W.seq ?_ | with_reducible refine Ops.nil ?_ | with_reducible refine W.region ?_ | refine z_p (kk := ?_) | refine z_a (kk := ?_) | refine z_y (kk := ?_) | refine z_n (kk := ?_) | refine z_u (kk := ?_) | with_reducible refine W.skip ?_ | with_reducible refine W.endb ?_ | with_reducible refine W.block ?_ | refine W.exit rfl ?_ | refine z_l (kk := ?_) | refine z_f (kk := ?_) | refine z_M (kk := ?_) | refine z_m (kk := ?_) | refine z_e (kk := ?_) | refine z_E (kk := ?_) | refine z_d (kk := ?_)))
      have hs := pickL_succ (moreP l os) j
      rw [← hb] at hs
      refine W.cond rfl (fun hc2 => ?_) (fun hc2 => ?_)
      · rw [hc2, if_pos rfl] at hs
        (repeat (first | with_reducible refine W.seq ?_ | with_reducible refine Ops.nil ?_ | with_reducible refine W.region ?_ | refine z_p (kk := ?_) | refine z_a (kk := ?_) | refine z_y (kk := ?_) | refine z_n (kk := ?_) | refine z_u (kk := ?_) | with_reducible refine W.skip ?_ | with_reducible refine W.endb ?_ | with_reducible refine W.block ?_ | refine W.exit rfl ?_ | refine z_l (kk := ?_) | refine z_f (kk := ?_) | refine z_M (kk := ?_) | refine z_m (kk := ?_) | refine z_e (kk := ?_) | refine z_E (kk := ?_) | refine z_d (kk := ?_)))
        refine Ops.push rfl rfl rfl rfl rfl rfl rfl rfl rfl rfl rfl rfl (fun _ => rfl) rfl hI.own (by omega) (fun lv' p w5 ho5 k5 hn5 => ?_)
        have hI5 := hI.push ho5 k5 hn5
        rw [← hs] at hI5
        (repeat (first | with_reducible refine W.seq ?_ | with_reducible refine Ops.nil ?_ | with_reducible refine W.region ?_ | refine z_p (kk := ?_) | refine z_a (kk := ?_) | refine z_y (kk := ?_) | refine z_n (kk := ?_) | refine z_u (kk := ?_) | with_reducible refine W.skip ?_ | with_reducible refine W.endb ?_ | with_reducible refine W.block ?_ | refine W.exit rfl ?_ | refine z_l (kk := ?_) | refine z_f (kk := ?_) | refine z_M (kk := ?_) | refine z_m (kk := ?_) | refine z_e (kk := ?_) | refine z_E (kk := ?_) | refine z_d (kk := ?_)))
        exact W.endl ⟨_, _, ⟨⟨j + 1, _, rfl, by omega, rfl, hI5⟩, by omega⟩, (by repeat (first | exact trivial | refine And.intro rfl ?_))⟩
      · rw [hc2, if_neg (by simp), List.append_nil] at hs
        rw [← hs] at hI
        (repeat (first | with_reducible refine W.seq ?_ | with_reducible refine Ops.nil ?_ | with_reducible refine W.region ?_ | refine z_p (kk := ?_) | refine z_a (kk := ?_) | refine z_y (kk := ?_) | refine z_n (kk := ?_) | refine z_u (kk := ?_) | with_reducible refine W.skip ?_ | with_reducible refine W.endb ?_ | with_reducible refine W.block ?_ | refine W.exit rfl ?_ | refine z_l (kk := ?_) | refine z_f (kk := ?_) | refine z_M (kk := ?_) | refine z_m (kk := ?_) | refine z_e (kk := ?_) | refine z_E (kk := ?_) | refine z_d (kk := ?_)))
        exact W.endl ⟨_, _, ⟨⟨j + 1, _, rfl, by omega, rfl, hI⟩, by omega⟩, (by repeat (first | exact trivial | refine And.intro rfl ?_))⟩
  · have hlt : j = l.length := by simp at hc; omega
    subst hlt
    have hT3 := hT2.below hb3
    have hsv3 := Sl.below hsv hb3
    have hb03 := hb2.trans (hb3.mono hb2.size)
    have hls : Listed l (pickL (someP l os) l.length) := pickL_listed fun i _ h => by simp only [someP, Bool.and_eq_true] at h; exact h.1.1
    have hlm : Listed l (pickL (moreP l os) l.length) := pickL_listed fun i _ h => by simp only [moreP, Bool.and_eq_true] at h; exact h.1.1
    have hsub : ∀ x ∈ pickL (someP l os) l.length, x ∈ pickL (moreP l os) l.length := fun x hx => by
      obtain ⟨i, h1, h2, rfl⟩ := pickL_mem.1 hx
      exact pickL_mem.2 ⟨i, h1, some_more h2, rfl⟩
    generalize pickL (someP l os) l.length = S at *
    generalize pickL (moreP l os) l.length = M at *
    (repeat (first | with_reducible refine W.seq ?_ | with_reducible refine Ops.nil ?_ | with_reducible refine W.region ?_ | refine z_p (kk := ?_) | refine z_a (kk := ?_) | refine z_y (kk := ?_) | refine z_n (kk := ?_) | refine z_u (kk := ?_) | with_reducible refine W.skip ?_ | with_reducible refine W.endb ?_ | with_reducible refine W.block ?_ | refine W.exit rfl ?_ | refine z_l (kk := ?_) | refine z_f (kk := ?_) | refine z_M (kk := ?_) | refine z_m (kk := ?_) | refine z_e (kk := ?_) | refine z_E (kk := ?_) | refine z_d (kk := ?_)))
    refine Ops.call rfl rfl rfl rfl rfl (decides_c hT3 (by omega) hsv3) (fun r w5 hR => ?_)
    obtain ⟨hb5, hR⟩ := hR
    unfold DecR at hR
    rw [if_pos ⟨hls, by omega⟩, hg] at hR
    obtain ⟨va, hva, rfl⟩ := hR
    have hb05 := hb03.trans (hb5.mono hb03.size)
    have hT5 := hT3.below hb5
    have hsv5 := Sl.below hsv3 hb5
    have hlv5 := Sl.below hI.sl hb5
    (repeat (first | with_reducible refine W.seq ?_ | with_reducible refine Ops.nil ?_ | with_reducible refine W.region ?_ | refine z_p (kk := ?_) | refine z_a (kk := ?_) | refine z_y (kk := ?_) | refine z_n (kk := ?_) | refine z_u (kk := ?_) | with_reducible refine W.skip ?_ | with_reducible refine W.endb ?_ | with_reducible refine W.block ?_ | refine W.exit rfl ?_ | refine z_l (kk := ?_) | refine z_f (kk := ?_) | refine z_M (kk := ?_) | refine z_m (kk := ?_) | refine z_e (kk := ?_) | refine z_E (kk := ?_) | refine z_d (kk := ?_)))
    refine Ops.call rfl rfl rfl rfl rfl (decides_c hT5 (by omega) hsv5) (fun r w6 hR => ?_)
    obtain ⟨hb6, hR⟩ := hR
    unfold DecR at hR
    rw [if_pos ⟨hls, by omega⟩, hg] at hR
    obtain ⟨vb, hvb, rfl⟩ := hR
    have hb06 := hb05.trans (hb6.mono hb05.size)
    have hT6 := hT5.below hb6
    have hlv6 := Sl.below hlv5 hb6
    (repeat (first | with_reducible refine W.seq ?_ | with_reducible refine Ops.nil ?_ | with_reducible refine W.region ?_ | refine z_p (kk := ?_) | refine z_a (kk := ?_) | refine z_y (kk := ?_) | refine z_n (kk := ?_) | refine z_u (kk := ?_) | with_reducible refine W.skip ?_ | with_reducible refine W.endb ?_ | with_reducible refine W.block ?_ | refine W.exit rfl ?_ | refine z_l (kk := ?_) | refine z_f (kk := ?_) | refine z_M (kk := ?_) | refine z_m (kk := ?_) | refine z_e (kk := ?_) | refine z_E (kk := ?_) | refine z_d (kk := ?_)))
    refine Ops.call rfl rfl rfl rfl rfl (decides_c hT6 (by omega) hlv6) (fun r w7 hR => ?_)
    obtain ⟨hb7, hR⟩ := hR
    unfold DecR at hR
    rw [if_pos ⟨hlm, by omega⟩, hg] at hR
    obtain ⟨vc, hvc, rfl⟩ := hR
    have hb07 := hb06.trans (hb7.mono hb06.size)
    have hab : vb = va := ValP.uniq hTF hvb hva
    subst hab
    have hac := Go.Proofs.Ytdiljpnfochndaa.HP.val_mono hTF hva hvc (fun i hi _ => worst_mono (fun a ha => (hTF.wor a ha).1) hsub i hi) 0 (by omega)
    generalize vb.getD 0 0 = va0 at *
    generalize vc.getD 0 0 = vc0 at *
    have hx : decide (b' - 100 ≤ va0) = true → decide (b' - 100 - 1 ≤ va0) = true ∧ decide (b' - 100 ≤ vc0) = true := by simp; omega
    generalize decide (b' - 100 ≤ va0) = a at *
    generalize decide (b' - 100 - 1 ≤ va0) = c at *
    generalize decide (b' - 100 ≤ vc0) = d at *
    cases a with
    | true =>
      obtain ⟨rfl, rfl⟩ := hx rfl
      (repeat (first | with_reducible refine W.seq ?_ | with_reducible refine Ops.nil ?_ | with_reducible refine W.region ?_ | refine z_p (kk := ?_) | refine z_a (kk := ?_) | refine z_y (kk := ?_) | refine z_n (kk := ?_) | refine z_u (kk := ?_) | with_reducible refine W.skip ?_ | with_reducible refine W.endb ?_ | with_reducible refine W.block ?_ | refine W.exit rfl ?_ | refine z_l (kk := ?_) | refine z_f (kk := ?_) | refine z_M (kk := ?_) | refine z_m (kk := ?_) | refine z_e (kk := ?_) | refine z_E (kk := ?_) | refine z_d (kk := ?_)))
      refine Ops.call rfl rfl rfl rfl rfl (awake_c w7) (fun r w8 hR => ?_)
      obtain ⟨rfl, hb8⟩ := hR
      (repeat (first | with_reducible refine W.seq ?_ | with_reducible refine Ops.nil ?_ | with_reducible refine W.region ?_ | refine z_p (kk := ?_) | refine z_a (kk := ?_) | refine z_y (kk := ?_) | refine z_n (kk := ?_) | refine z_u (kk := ?_) | with_reducible refine W.skip ?_ | with_reducible refine W.endb ?_ | with_reducible refine W.block ?_ | refine W.exit rfl ?_ | refine z_l (kk := ?_) | refine z_f (kk := ?_) | refine z_M (kk := ?_) | refine z_m (kk := ?_) | refine z_e (kk := ?_) | refine z_E (kk := ?_) | refine z_d (kk := ?_)))
      exact W.fret rfl ⟨rfl, hb07.trans (hb8.mono hb07.size)⟩
    | false =>
      (repeat (first | with_reducible refine W.seq ?_ | with_reducible refine Ops.nil ?_ | with_reducible refine W.region ?_ | refine z_p (kk := ?_) | refine z_a (kk := ?_) | refine z_y (kk := ?_) | refine z_n (kk := ?_) | refine z_u (kk := ?_) | with_reducible refine W.skip ?_ | with_reducible refine W.endb ?_ | with_reducible refine W.block ?_ | refine W.exit rfl ?_ | refine z_l (kk := ?_) | refine z_f (kk := ?_) | refine z_M (kk := ?_) | refine z_m (kk := ?_) | refine z_e (kk := ?_) | refine z_E (kk := ?_) | refine z_d (kk := ?_)))
      refine Ops.call rfl rfl rfl rfl rfl (awake_c w7) (fun r w8 hR => ?_)
      obtain ⟨rfl, hb8⟩ := hR
      (repeat (first | with_reducible refine W.seq ?_ | with_reducible refine Ops.nil ?_ | with_reducible refine W.region ?_ | refine z_p (kk := ?_) | refine z_a (kk := ?_) | refine z_y (kk := ?_) | refine z_n (kk := ?_) | refine z_u (kk := ?_) | with_reducible refine W.skip ?_ | with_reducible refine W.endb ?_ | with_reducible refine W.block ?_ | refine W.exit rfl ?_ | refine z_l (kk := ?_) | refine z_f (kk := ?_) | refine z_M (kk := ?_) | refine z_m (kk := ?_) | refine z_e (kk := ?_) | refine z_E (kk := ?_) | refine z_d (kk := ?_)))
      exact W.fret rfl ⟨rfl, hb07.trans (hb8.mono hb07.size)⟩
end Go.Proofs.Ytdiljpnfochndaa
