/- A part of the walk: what this seat's statements share. -/
import Derived.Test.YtcmjlmnfdncajaaGreatDoorZTowerSumsG2
import Derived.Test.YtcmjlmnfdncajaaGreatDoorZTowerSumsG1
import Derived.Test.YtcmjlmnfdncajaaGreatDoorZG7
import Derived.Test.YtcmjlmnfdncajaaGreatDoorZG5
import Derived.Test.YtcmjlmnfdncajaaGreatDoorZG8
set_option linter.unusedVariables false
set_option linter.unusedSimpArgs false
set_option linter.unusedSectionVars false
namespace Go.Proofs.YtcmjlmnfdncajaaGreatDoor
open Go Go.RowKit Go.Proofs.YtcmjlmnfdncajaaGreatDoor.VW Go.Proofs.YtcmjlmnfdncajaaGreatDoor.TW
attribute [local irreducible] W Ops OrdA VW.Ord OrdX Wi OpsI OrdF
theorem growP_c {w : World} (i : Int) (h0 : 0 ≤ i) (h1 : i ≤ 1000000) : Calls Tryz.prog 131 #[.slice none 0 0, .int .i64 i] w (Ret fun r w' => PO w.heap.size w' r [] ∧ Below w.heap.size w w') := by
  refine calls_W (vs := [_, _]) Tryz.func131 rfl (by kernel_rfl) rfl ?_
  (repeat (first | with_reducible refine W.seq ?_ | with_reducible refine Ops.nil ?_ | with_reducible refine W.region ?_ | refine z_p (kk := ?_)))
  refine W.condF rfl (by first | rfl | assumption | (simp only [bnf] <;> omega) | (simp only [*, bnf]; done) | fail) ?_
  (repeat (first | with_reducible refine W.seq ?_ | with_reducible refine W.region ?_ | refine z_p (kk := ?_) | with_reducible refine W.skip ?_))
  refine Ops.cap rfl rfl rfl rfl rfl ?_
  (repeat (first | with_reducible refine W.seq ?_ | with_reducible refine Ops.nil ?_ | with_reducible refine W.region ?_ | refine z_p (kk := ?_) | refine z_a (kk := ?_) | refine z_l (kk := ?_)))
  by_cases hp : 0 < i
  · refine W.condT rfl (by first | (simp; done) | (simp; omega)) ?_
    (repeat (first | with_reducible refine W.region ?_ | refine z_p (kk := ?_)))
    refine Ops.cap rfl rfl rfl rfl rfl ?_
    refine Ops.slH rfl rfl rfl rfl rfl rfl rfl (by simp) (by simp) ?_
    (repeat (first | refine z_p (kk := ?_)))
    refine Ops.appZ2 rfl rfl rfl rfl rfl rfl rfl rfl rfl rfl rfl (by omega) (by omega) (fun r c w1 hr hcap hown k1 => ?_)
    have hb1 : Below w.heap.size w w1 := k1.below (Nat.le_refl _) (fun _ _ e => e)
    (repeat (first | refine z_p (kk := ?_) | refine z_l (kk := ?_)))
    refine Ops.slH rfl rfl rfl rfl rfl rfl rfl (by simp) (by simp) ?_
    (repeat (first | with_reducible refine W.seq ?_ | with_reducible refine Ops.nil ?_ | with_reducible refine W.region ?_ | refine z_p (kk := ?_)))
    refine W.fret rfl ⟨⟨hb1.size, tr_bel hb1.size, hown, fun k hk => ?_⟩, hb1⟩
    simp [resV, Value.ownBlock] at hk
    rw [tr_size hb1.size]
    omega
  · refine W.condF rfl (by first | (simp; done) | (simp; omega)) ?_
    (repeat (first | with_reducible refine W.seq ?_ | with_reducible refine Ops.nil ?_ | with_reducible refine W.region ?_ | refine z_p (kk := ?_) | with_reducible refine W.skip ?_))
    exact W.fret rfl ⟨PO.nil (Nat.le_refl _), Below.refl _ _⟩
set_option maxHeartbeats 4000000 in
theorem concatP_c {S' : Nat → Prop} {w : World} {r c : Nat} {svs : List Value} {xss : List (List (Value × Nat))} (hB : Blk w r svs.toArray 84) (hl : svs.length = xss.length) (hs : ∀ j, j < xss.length → R2 S' w (svs.getD j undef) (xss.getD j [])) (h1c : ∀ l, l ∈ xss → ∀ p, p ∈ l → p.1.oneCell' = true) (hsum : xss.flatten.length ≤ 1000000) (hn : xss.length ≤ 1000) :
    Calls Tryz.prog 117 #[.slice (some ⟨r, 0, none⟩) xss.length c] w (Ret fun v w' => PO w.heap.size w' v xss.flatten ∧ Below w.heap.size w w') := by
  have hcell : ∀ (w' : World) j, Below w.heap.size w w' → j < xss.length → w'.cell? ((⟨r, 0, none⟩ : Addr).add (j * 1)) = some (svs.getD j undef) := by
    intro w' j hb hj
    rw [Nat.mul_one, add_lit, Nat.zero_add]
    refine (hB.kp (Kp.of_below (S := fun _ => False) hb) (fun e => e)).cell ?_
    simp [List.getD_eq_getElem?_getD, hl, hj]
  have hpre : ∀ j, j ≤ xss.length → (xss.take j).flatten.length ≤ 1000000 := by
    intro j hj
    have : xss.flatten.length = (xss.take j).flatten.length + (xss.drop j).flatten.length := by
      rw [← List.length_append, ← List.flatten_append, List.take_append_drop]
    omega
  have hstep : ∀ j, j < xss.length → (xss.take (j + 1)).flatten = (xss.take j).flatten ++ xss.getD j [] := by
    intro j hj
    rw [List.take_succ_eq_append_getElem hj, List.flatten_append]
    simp [List.getD_eq_getElem?_getD, hj]
  have hmem : ∀ j, j < xss.length → xss.getD j [] ∈ xss := fun j hj => by
    rw [List.getD_eq_getElem?_getD, List.getElem?_eq_getElem hj]
    exact List.getElem_mem hj
  refine calls_W (vs := [_]) Tryz.func117 rfl (by kernel_rfl) rfl ?_
  (repeat (first | with_reducible refine W.seq ?_ | with_reducible refine Ops.nil ?_ | with_reducible refine W.region ?_ | refine z_p (kk := ?_) | with_reducible refine W.block ?_ | refine z_l (kk := ?_)))
  refine W.loop (fun m ρ w1 => ∃ j : Nat, m = xss.length - j ∧ j ≤ xss.length ∧ ρ = [(0, .slice (some ⟨r, 0, none⟩) xss.length c), (3, .int .i64 ((xss.take j).flatten.length : Nat)), (9, .slice (some ⟨r, 0, none⟩) xss.length c), (10, .int .i64 xss.length), (11, .int .i64 j)] ∧ w1 = w)
    ⟨_, _, ⟨0, rfl, Nat.zero_le _, rfl, rfl⟩, (by repeat (first | exact trivial | refine And.intro rfl ?_))⟩ ?_
  rintro m ρ w1 ⟨j, rfl, hj, rfl, rfl⟩
  (repeat (first | with_reducible refine W.seq ?_ | with_reducible refine Ops.nil ?_ | with_reducible refine W.region ?_ | refine z_p (kk := ?_)))
  (first | refine W.condD rfl (fun hc => ?_) (fun hc => ?_) | refine W.condE rfl (fun hc => ?_) (fun hc => ?_) | refine W.condN rfl (fun hc => ?_) (fun hc => ?_) | refine W.cond rfl (fun hc => ?_) (fun hc => ?_))
  · have hlt : j < xss.length := by omega
    have hsj := hs j hlt
    obtain ⟨Aj, cj, ej⟩ := hsj.sh
    have hp1 := hpre (j + 1) (by omega)
    rw [hstep j hlt, List.length_append] at hp1
    (repeat (first | with_reducible refine W.seq ?_ | with_reducible refine W.region ?_ | with_reducible refine W.skip ?_ | with_reducible refine W.block ?_))
    refine Ops.idx rfl rfl rfl rfl rfl rfl rfl (by omega) (by omega) (Ops.ld rfl rfl rfl rfl rfl (hcell w1 j (Below.refl _ _) hlt) ?_)
    rw [ej]
    (repeat (first | with_reducible refine W.seq ?_ | with_reducible refine Ops.nil ?_ | with_reducible refine W.region ?_ | refine z_p (kk := ?_) | refine z_a (kk := ?_) | refine z_l (kk := ?_)))
    refine W.condF rfl (by first | (simp; done) | (simp; omega)) ?_
    (repeat (first | with_reducible refine Ops.nil ?_ | with_reducible refine W.region ?_ | refine z_p (kk := ?_) | refine z_a (kk := ?_) | with_reducible refine W.skip ?_ | with_reducible refine W.endb ?_))
    refine W.endl ⟨_, _, ⟨⟨j + 1, rfl, by omega, rfl, rfl⟩, by omega⟩, ⟨rfl, ?_, rfl, rfl, rfl, trivial⟩⟩
    rw [hstep j hlt, List.length_append]
    rfl
  · have hlt : j = xss.length := by omega
    subst hlt
    rw [List.take_length]
    (repeat (first | with_reducible refine W.seq ?_ | with_reducible refine W.region ?_ | refine z_p (kk := ?_) | refine W.exit rfl ?_))
    refine Ops.call rfl rfl rfl rfl rfl (growP_c _ (by omega) (by omega)) (fun v w2 hI => ?_)
    obtain ⟨hI, hb2⟩ := hI
    (repeat (first | with_reducible refine W.seq ?_ | with_reducible refine Ops.nil ?_ | with_reducible refine W.region ?_ | refine z_p (kk := ?_) | with_reducible refine W.block ?_ | refine z_l (kk := ?_)))
    refine W.loop (fun m ρ w2 => ∃ (j : Nat) (v : Value), m = xss.length - j ∧ j ≤ xss.length ∧ ρ = [(6, v), (25, .slice (some ⟨r, 0, none⟩) xss.length c), (26, .int .i64 xss.length), (27, .int .i64 j)] ∧ PO w1.heap.size w2 v (xss.take j).flatten ∧ Below w1.heap.size w1 w2)
      ⟨_, _, ⟨0, v, rfl, Nat.zero_le _, rfl, hI, hb2⟩, (by repeat (first | exact trivial | refine And.intro rfl ?_))⟩ ?_
    rintro m ρ w2 ⟨j, v, rfl, hj, rfl, hI, hb2⟩
    (repeat (first | with_reducible refine W.seq ?_ | with_reducible refine Ops.nil ?_ | with_reducible refine W.region ?_ | refine z_p (kk := ?_)))
    (first | refine W.condD rfl (fun hc => ?_) (fun hc => ?_) | refine W.condE rfl (fun hc => ?_) (fun hc => ?_) | refine W.condN rfl (fun hc => ?_) (fun hc => ?_) | refine W.cond rfl (fun hc => ?_) (fun hc => ?_))
    · have hlt : j < xss.length := by omega
      have hp1 := hpre (j + 1) (by omega)
      rw [hstep j hlt, List.length_append] at hp1
      (repeat (first | with_reducible refine W.seq ?_ | with_reducible refine W.region ?_ | with_reducible refine W.skip ?_ | with_reducible refine W.block ?_))
      refine Ops.idx rfl rfl rfl rfl rfl rfl rfl (by omega) (by omega) (Ops.ld rfl rfl rfl rfl rfl (hcell w2 j hb2 hlt) ?_)
      (repeat (first | with_reducible refine Ops.nil ?_ | with_reducible refine W.region ?_ | refine z_p (kk := ?_)))
      refine Ops.appP rfl rfl rfl rfl rfl rfl rfl rfl rfl hI.2 ((hs j hlt).below hb2) (h1c _ (hmem j hlt)) (by omega) (fun v' w3 hO k3 hn3 => ?_)
      have hI3 := po_put hI (tr_size hI.1) hO k3.size
      rw [← hstep j hlt] at hI3
      (repeat (first | with_reducible refine Ops.nil ?_ | with_reducible refine W.region ?_ | refine z_p (kk := ?_) | refine z_a (kk := ?_) | with_reducible refine W.endb ?_))
      exact W.endl ⟨_, _, ⟨⟨j + 1, v', rfl, by omega, rfl, hI3, Below.put hb2 k3 (fun i hi => po_ge hI i hi)⟩, by omega⟩, (by repeat (first | exact trivial | refine And.intro rfl ?_))⟩
    · have hlt : j = xss.length := by omega
      subst hlt
      rw [List.take_length] at hI
      (repeat (first | with_reducible refine W.seq ?_ | with_reducible refine Ops.nil ?_ | with_reducible refine W.region ?_ | refine z_p (kk := ?_) | refine W.exit rfl ?_))
      exact W.fret rfl ⟨hI, hb2⟩
end Go.Proofs.YtcmjlmnfdncajaaGreatDoor
namespace Go.Proofs.YtcmjlmnfdncajaaGreatDoor
open Go Go.RowKit Go.Proofs.YtcmjlmnfdncajaaGreatDoor.VW Go.Proofs.YtcmjlmnfdncajaaGreatDoor.TW
attribute [local irreducible] W Ops OrdA VW.Ord OrdX Wi OpsI OrdF
/-- A list of parts in memory: the first one and the others. -/
theorem OA_cons {S : Nat → Prop} {w : World} {o : Od} {l : List (Value × Nat)} (h : OA S w o l) (hp : 0 < l.length) : ∃ e c r v l', o = .cons e c r ∧ l = (v, c) :: l' ∧ OM S w v e ∧ OA S w r l' := by
  cases o with
  | nil =>
    have : l = [] := h
    subst this
    simp at hp
  | cons e c r =>
    obtain ⟨v, l', le, h1, h2, h3, h4⟩ := h
    exact ⟨e, c, r, v, l', rfl, h1, ⟨le, h2, h3⟩, h4⟩
theorem OA_nil {S : Nat → Prop} {w : World} {o : Od} {l : List (Value × Nat)} (h : OA S w o l) (hp : l.length = 0) : o = .nil := by
  have := h.len
  exact lenO_zero.1 (by omega)
set_option maxHeartbeats 8000000 in
theorem blend_c {S' : Nat → Prop} {w : World} {va vb : Value} {a b : Od} (hS : ∀ i, S' i → i < w.heap.size) (hA : OM S' w va a) (hB : OM S' w vb b) (hza : szO a ≤ 100000) (hzb : szO b ≤ 100000) (hta : topO a ≤ 10000000) (htb : topO b ≤ 10000000) :
    Calls Tryz.prog 96 #[va, vb] w (RetP (fun r w' => bigT (blO a b) = false ∧ OM S' w' r (blO a b) ∧ Below w.heap.size w w') (fun ch w' => ch = trb 5 ∧ bigT (blO a b) = true ∧ Below w.heap.size w w')) := by
  have hsz := bl_sizes a b
  have hlz := len_le_sz (blO a b)
  obtain ⟨la, hRa, hAa⟩ := hA
  obtain ⟨lb, hRb, hAb⟩ := hB
  have hla := hAa.len
  have hlb := hAb.len
  have hza' := len_le_sz a
  have hzb' := len_le_sz b
  obtain ⟨Aa, ca, rfl⟩ := hRa.sh
  obtain ⟨Ab, cb, rfl⟩ := hRb.sh
  refine calls_WP (vs := [_, _]) Tryz.func96 rfl (by kernel_rfl) rfl ?_
  (repeat (first | with_reducible refine W.seq ?_ | with_reducible refine Ops.nil ?_ | with_reducible refine W.region ?_ | refine z_p (kk := ?_) | with_reducible refine W.block ?_))
  refine W.loop (fun m ρ w3 => ∃ (a' b' acc : Od) (la' lb' l : List (Value × Nat)) (Aa Ab : Option Addr) (ca cb : Nat) (ov : Value), m = la'.length + lb'.length ∧ ρ = [(0, .slice Aa la'.length ca), (1, .slice Ab lb'.length cb), (5, ov)] ∧
      Below w.heap.size w w3 ∧ PO w.heap.size w3 ov l ∧ OA S' w acc l ∧ R2 S' w (.slice Aa la'.length ca) la' ∧ R2 S' w (.slice Ab lb'.length cb) lb' ∧ OA S' w a' la' ∧ OA S' w b' lb' ∧ blO a b = appO acc (blO a' b') ∧ lenO acc + lenO a' + lenO b' ≤ 200000 ∧ topO a' ≤ 10000000 ∧ topO b' ≤ 10000000)
    ⟨_, _, ⟨a, b, .nil, la, lb, [], _, _, _, _, _, rfl, rfl, Below.refl _ _, PO.nil (by omega), rfl, hRa, hRb, hAa, hAb, rfl, by simp only [lenO]; omega, hta, htb⟩, (by repeat (first | exact trivial | refine And.intro rfl ?_))⟩ ?_
  clear hRa hRb hAa hAb
  rintro m ρ w3 ⟨a', b', acc, la', lb', l, Aa, Ab, ca, cb, ov, rfl, rfl, hb03, hP, hAc, hRa, hRb, hAa, hAb, heq, hlen, ha', hb'⟩
  have hPs := hP.1
  have hlac := hAc.len
  have hlaa := hAa.len
  have hlbb := hAb.len
  have hb33 : Below w3.heap.size w3 w3 := Below.refl _ _
  by_cases hgo : 0 < la'.length ∧ 0 < lb'.length
  · obtain ⟨hg1, hg2⟩ := hgo
    obtain ⟨ae, ac, ar, ve, la2, rfl, rfl, hEa, hAr⟩ := OA_cons hAa hg1
    obtain ⟨be, bc, br, vf, lb2, rfl, rfl, hEb, hBr⟩ := OA_cons hAb hg2
    have ha1 := hEa.one
    have hb1 := hEb.one
    have hRa3 := hRa.below hb03
    have hRb3 := hRb.below hb03
    simp only [topO] at ha' hb'
    have hl1 : ((ve, ac) :: la2).length = la2.length + 1 := rfl
    have hl2 : ((vf, bc) :: lb2).length = lb2.length + 1 := rfl
    simp only [lenO] at hlen
    have hda := hRa.slD (q := 1) (by simp)
    have hdb := hRb.slD (q := 1) (by simp)
    simp only [List.drop_succ_cons, List.drop_zero] at hda hdb
    obtain ⟨A2, c2, hv2⟩ := hda.sh
    obtain ⟨B2, d2, hw2⟩ := hdb.sh
    (repeat (first | with_reducible refine W.seq ?_ | with_reducible refine Ops.nil ?_ | with_reducible refine W.region ?_ | refine z_p (kk := ?_) | refine z_y (kk := ?_) | refine z_l (kk := ?_) | refine z_h (kk := ?_)))
    refine W.condT rfl (by first | rfl | (simp; done) | (simp; omega)) ?_
    (repeat (first | with_reducible refine W.seq ?_ | with_reducible refine W.skip ?_ | with_reducible refine W.block ?_))
    refine W.ordA 99 [(0, 1), (1, 1), (2, 1), (3, 2), (4, 1), (5, 1), (6, 1), (7, 2), (8, 2)] rfl (by kernel_rfl) rfl (by kernel_rfl) (fun _ _ _ h => h) ?_
    (repeat (first | refine x_p (kk := ?_) | refine x_R0 (kk := fun _ _ => ?_)))
    refine OrdA.call rfl rfl rfl rfl rfl rfl rfl (fun w' hw' => Calls.via hw' (compare_c _ (Nat.le_refl _) (hEa.below (Below.via hb03 hw')) (hEb.below (Below.via hb03 hw')))) ?_
    refine OrdA.nil (fun w5 hb35 => ?_)
    have hb05 := Below.via hb03 hb35
    have hb55 : Below w5.heap.size w5 w5 := Below.refl _ _
    have hP5 := po_kp hP (kpF hb35) (fun _ _ e => e)
    have hRa5 := hRa.below hb05
    have hRb5 := hRb.below hb05
    clear hRa3 hRb3 hb33
    (repeat (first | with_reducible refine W.seq ?_ | with_reducible refine Ops.nil ?_ | with_reducible refine W.region ?_ | refine z_p (kk := ?_) | with_reducible refine W.block ?_))
    rcases cmp_rng ae be with hx | hx | hx
    · rw [blO_cons, if_neg (by omega), if_pos hx, appO_cons_snoc] at heq
      rw [hx]
      refine W.condF rfl (by first | rfl | assumption | (simp only [bnf] <;> omega) | (simp only [*, bnf]; done) | fail) ?_
      (repeat (first | with_reducible refine W.seq ?_ | with_reducible refine Ops.nil ?_ | with_reducible refine W.region ?_ | refine z_p (kk := ?_)))
      refine W.condT rfl (by first | rfl | assumption | (simp only [bnf] <;> omega) | (simp only [*, bnf]; done) | fail) ?_
      (repeat (first | with_reducible refine W.seq ?_ | with_reducible refine W.region ?_ | refine z_p (kk := ?_) | refine z_R2 (kk := fun _ => ?_)))
      refine Ops.pushP (fa := pA) (fb := pB) (z := (vf, bc)) rfl rfl rfl rfl rfl rfl rfl rfl rfl rfl rfl (fun _ => rfl) hb1 rfl hP5.2 (by omega) (fun lv' p w7 hO7 k7 hn7 => ?_)
      have hP7 := po_put hP5 (tr_size hP5.1) hO7 k7.size
      have hAs := OA_snoc (c := bc) hEb hAc
      have hls : lenO (snocO acc be bc) = lenO acc + 1 := by unfold snocO; rw [lenO_app]; rfl
      (repeat (first | with_reducible refine Ops.nil ?_ | with_reducible refine W.region ?_ | refine z_p (kk := ?_)))
      refine z_ev (EV.slP (q := 1) rfl rfl rfl rfl rfl (by omega)) (kk := ?_)
      rw [show ((vf, bc) :: lb2).length = lb2.length + 1 from rfl] at hw2 hdb ⊢
      rw [hw2] at hdb ⊢
      (repeat (first | with_reducible refine Ops.nil ?_ | refine z_p (kk := ?_) | with_reducible refine W.endb ?_))
      exact W.endl ⟨_, _, ⟨⟨.cons ae ac ar, br, snocO acc be bc, (ve, ac) :: la2, lb2, l ++ [(vf, bc)], Aa, B2, ca, d2, lv', rfl, rfl, Below.put hb05 k7 (fun j hj => po_ge hP5 j hj), hP7, hAs, hRa, hdb, hAa, hBr, heq, by simp only [lenO]; omega, by simp only [topO]; omega, by omega⟩, by simp⟩, (by repeat (first | exact trivial | refine And.intro rfl ?_))⟩
    · rw [blO_cons, if_neg (by omega), if_neg (by omega), appO_cons_snoc] at heq
      rw [hx]
      refine W.condF rfl (by first | rfl | assumption | (simp only [bnf] <;> omega) | (simp only [*, bnf]; done) | fail) ?_
      (repeat (first | with_reducible refine W.seq ?_ | with_reducible refine Ops.nil ?_ | with_reducible refine W.region ?_ | refine z_p (kk := ?_)))
      refine W.condF rfl (by first | rfl | assumption | (simp only [bnf] <;> omega) | (simp only [*, bnf]; done) | fail) ?_
      (repeat (first | with_reducible refine W.seq ?_))
      refine W.ordA 15 [(0, 1), (1, 1), (2, 1), (3, 1), (4, 2), (5, 1), (6, 1), (7, 1), (8, 2), (9, 1), (10, 1), (11, 1), (12, 2), (13, 1), (14, 1), (15, 0), (16, 0), (17, 1)] rfl (by kernel_rfl) rfl (by kernel_rfl) (fun _ _ _ h => h) ?_
      (repeat (first | refine x_p (kk := ?_) | refine x_R0 (kk := fun _ _ => ?_) | refine x_R1 (kk := fun _ _ => ?_)))
      rw [show (((ve, ac) :: la2).getD 0 default).2 = ac from rfl, show (((vf, bc) :: lb2).getD 0 default).2 = bc from rfl]
      (repeat (first | refine x_a (kk := ?_)))
      rw [show ((ac : Nat) : Int) + ((bc : Nat) : Int) = ((ac + bc : Nat) : Int) by omega]
      refine x_ev rfl (fun _ => EV.bld2 rfl rfl rfl rfl rfl ha1 rfl) (kk := ?_)
      refine OrdA.tail (fun w6 hb6 => ?_)
      have hb06 := Below.via hb05 hb6
      have hP6 := po_kp hP5 (kpF hb6) (fun _ _ e => e)
      refine VW.Ord.pushP (z := (ve, ac + bc)) rfl rfl rfl rfl rfl rfl rfl rfl rfl rfl rfl rfl rfl (fun _ => rfl) ha1 rfl hP6.2 (by omega) (fun lv' p w7 hO7 k7 hn7 => ?_)
      have hP7 := po_put hP6 (tr_size hP6.1) hO7 k7.size
      have hAs := OA_snoc (c := ac + bc) hEa hAc
      have hls : lenO (snocO acc ae (ac + bc)) = lenO acc + 1 := by unfold snocO; rw [lenO_app]; rfl
      (repeat (first | refine y_p (kk := ?_)))
      refine VW.Ord.nil ?_
      skip
      refine W.ordA 99 [(0, 1), (1, 1), (2, 1), (3, 1), (4, 1), (5, 1)] rfl (by kernel_rfl) rfl (by kernel_rfl) (fun _ _ _ h => h) ?_
      (repeat (first | refine x_p (kk := ?_)))
      refine x_ev rfl (fun _ => EV.slP (q := 1) rfl rfl rfl rfl rfl (by omega)) (kk := ?_)
      (repeat (first | refine x_p (kk := ?_)))
      refine x_ev rfl (fun _ => EV.slP (q := 1) rfl rfl rfl rfl rfl (by omega)) (kk := ?_)
      rw [show ((vf, bc) :: lb2).length = lb2.length + 1 from rfl] at hw2 hdb ⊢
      rw [show ((ve, ac) :: la2).length = la2.length + 1 from rfl] at hv2 hda ⊢
      rw [hw2] at hdb ⊢
      rw [hv2] at hda ⊢
      (repeat (first | refine x_p (kk := ?_)))
      refine OrdA.nil (fun w8 hb8 => ?_)
      have hb08 := Below.via (Below.put hb06 k7 (fun j hj => po_ge hP6 j hj)) hb8
      have hP8 := po_kp hP7 (kpF hb8) (fun _ _ e => e)
      (repeat (first | with_reducible refine W.endb ?_))
      exact W.endl ⟨_, _, ⟨⟨ar, br, snocO acc ae (ac + bc), la2, lb2, l ++ [(ve, ac + bc)], A2, B2, c2, d2, lv', rfl, rfl, hb08, hP8, hAs, hda, hdb, hAr, hBr, heq, by omega, by omega, by omega⟩, by first | omega | (simp; omega)⟩, (by repeat (first | exact trivial | refine And.intro rfl ?_))⟩
    · rw [blO_cons, if_pos hx, appO_cons_snoc] at heq
      rw [hx]
      refine W.condT rfl (by first | rfl | assumption | (simp only [bnf] <;> omega) | (simp only [*, bnf]; done) | fail) ?_
      (repeat (first | with_reducible refine W.seq ?_ | with_reducible refine W.region ?_ | refine z_p (kk := ?_) | refine z_R2 (kk := fun _ => ?_)))
      refine Ops.pushP (fa := pA) (fb := pB) (z := (ve, ac)) rfl rfl rfl rfl rfl rfl rfl rfl rfl rfl rfl (fun _ => rfl) ha1 rfl hP5.2 (by omega) (fun lv' p w7 hO7 k7 hn7 => ?_)
      have hP7 := po_put hP5 (tr_size hP5.1) hO7 k7.size
      have hAs := OA_snoc (c := ac) hEa hAc
      have hls : lenO (snocO acc ae ac) = lenO acc + 1 := by unfold snocO; rw [lenO_app]; rfl
      (repeat (first | with_reducible refine Ops.nil ?_ | with_reducible refine W.region ?_ | refine z_p (kk := ?_)))
      refine z_ev (EV.slP (q := 1) rfl rfl rfl rfl rfl (by omega)) (kk := ?_)
      rw [show ((ve, ac) :: la2).length = la2.length + 1 from rfl] at hv2 hda ⊢
      rw [hv2] at hda ⊢
      (repeat (first | with_reducible refine Ops.nil ?_ | refine z_p (kk := ?_) | with_reducible refine W.endb ?_))
      exact W.endl ⟨_, _, ⟨⟨ar, .cons be bc br, snocO acc ae ac, la2, (vf, bc) :: lb2, l ++ [(ve, ac)], A2, Ab, c2, cb, lv', rfl, rfl, Below.put hb05 k7 (fun j hj => po_ge hP5 j hj), hP7, hAs, hda, hRb, hAr, hAb, heq, by simp only [lenO]; omega, by omega, by simp only [topO]; omega⟩, by simp⟩, (by repeat (first | exact trivial | refine And.intro rfl ?_))⟩
  · have hor : la'.length = 0 ∨ lb'.length = 0 := by omega
    have heq' : blO a b = appO acc (appO a' (appO b' .nil)) := by
      rw [heq]
      rcases hor with h | h
      · rw [OA_nil hAa h, appO_nil]; rfl
      · rw [OA_nil hAb h, blO_nil]; show appO acc a' = appO acc (appO a' .nil); rw [appO_nil]
    have hl1 : la'.length ≠ 0 → lb'.length = 0 := by omega
    obtain ⟨Ao, co, hov⟩ := hP.2.sh
    have ho1 : ov.oneCell' = true := by rw [hov]; rfl
    have hRl : R2 S' w3 ov l := po_R2 hP (by omega) (fun j hj h => by have := po_ge hP j hj; have := hS j h; omega)
    have hRa3 := hRa.below hb03
    have hRb3 := hRb.below hb03
    have hOA := OA_app hAc (OA_app hAa hAb)
    rw [show appO acc (appO a' b') = blO a b by rw [heq', appO_nil]] at hOA
    have h1c : ∀ x, x ∈ [l, la', lb'] → ∀ p, p ∈ x → p.1.oneCell' = true := fun x hx => by
      simp only [List.mem_cons, List.not_mem_nil, or_false] at hx
      rcases hx with rfl | rfl | rfl
      · exact OA_one hAc
      · exact OA_one hAa
      · exact OA_one hAb
    by_cases hl0 : la'.length = 0
    all_goals (
      (repeat (first | with_reducible refine W.seq ?_ | with_reducible refine Ops.nil ?_ | with_reducible refine W.region ?_ | refine z_p (kk := ?_) | refine z_y (kk := ?_) | refine z_n (kk := ?_) | refine z_l (kk := ?_) | refine z_g (kk := ?_) | refine z_h (kk := ?_)))
      refine W.condF rfl (by first | rfl | (simp; done) | (simp [hl1 hl0]; done) | (simp; omega)) ?_
      (repeat (first | with_reducible refine W.seq ?_ | with_reducible refine W.region ?_ | refine z_p (kk := ?_) | refine W.exit rfl ?_))
      refine Ops.bsG (cs := #[ov, .slice Aa la'.length ca, .slice Ab lb'.length cb]) (vs := [(0, ov), (1, .slice Aa la'.length ca), (2, .slice Ab lb'.length cb)]) rfl rfl rfl rfl rfl rfl rfl rfl rfl (by rw [hov]; simp [Instr.fill, Value.cells, show Array.range 3 = #[0, 1, 2] from rfl]) (fun w4 r hM4 => ?_)
      have hb34 := Mk.bel hM4
      have hb04 := Below.via hb03 hb34
      refine Ops.call rfl rfl rfl rfl rfl (concatP_c (S' := S') (svs := [ov, .slice Aa la'.length ca, .slice Ab lb'.length cb]) (xss := [l, la', lb']) hM4.at_ rfl (fun j hj => by
        match j, hj with
        | 0, _ => exact hRl.below hb34
        | 1, _ => exact hRa3.below hb34
        | 2, _ => exact hRb3.below hb34) h1c (by simp; omega) (by simp)) (fun v5 w5 hR => ?_)
      obtain ⟨hP5, hb45⟩ := hR
      have hb05 := Below.via hb04 hb45
      have hs4 := hb04.size
      have hM5 : OM S' w5 v5 (blO a b) := by
        refine ⟨_, po_R2 hP5 (by simp; omega) (fun j hj h => by have := po_ge hP5 j hj; have := hS j h; omega), ?_⟩
        have := hOA.kp (Kp.of_below (S := fun _ => False) hb05) (fun _ e => e.elim)
        simpa using this
      refine Ops.callP rfl rfl rfl rfl rfl (checked_c hM5 (by omega)) (fun r w7 hR => ?_) (fun ch w7 hR => ?_)
      · obtain ⟨rfl, hbig, hb67⟩ := hR
        (repeat (first | with_reducible refine Ops.nil ?_ | refine z_p (kk := ?_)))
        exact W.fretP rfl ⟨hbig, hM5.below hb67, Below.via hb05 hb67⟩
      · obtain ⟨rfl, hbig, hb67⟩ := hR
        exact ⟨rfl, hbig, Below.via hb05 hb67⟩)
def blG (a b : Od) : Except Int Od := if bigT (blO a b) = true then .error 5 else .ok (blO a b)
theorem blend_fun : FunO 96 blG := ⟨rfl, fun {S' w va vb a b} hS hA hB na nb sa sb za zb => by
  have h1 := small_most sa
  have h2 := small_most sb
  have h3 := most_top a
  have h4 := most_top b
  have hsz := bl_sizes a b
  have h5 := most_eq (blO a b)
  have h6 := exM_le a
  have h7 := exM_le b
  refine (blend_c hS hA hB (by omega) (by omega) (by omega) (by omega)).mono fun e w' h => ?_
  rcases h with ⟨v, he, h5, h6, h7⟩ | ⟨ch, he, h5, h6, h7⟩
  · exact .inl ⟨v, he, blO a b, by unfold blG; rw [if_neg (by rw [h5]; simp)], h6, h7, by omega, by omega⟩
  · exact .inr ⟨ch, he, 5, h5, by unfold blG; rw [if_pos h6], h7⟩⟩
theorem Blend_c {w : World} {s t : List UInt8} (hs : s.length ≤ 4294967295) (ht : t.length ≤ 4294967295) (hT : Tbl w) :
    Calls Tryz.prog 50 #[S s, S t] w (Ret fun r w' => r = .tuple #[S (outS (bothR blG s t)), .int .i64 (outE (bothR blG s t))] ∧ Below w.heap.size w w') := by
  refine calls_W (vs := [_, _]) Tryz.func50 rfl (by kernel_rfl) rfl ?_
  (repeat (first | with_reducible refine W.seq ?_ | with_reducible refine Ops.nil ?_ | with_reducible refine W.region ?_ | refine z_p (kk := ?_)))
  refine Ops.call rfl rfl rfl rfl rfl (both_c blend_fun hs ht hT) (fun r w1 hR => ?_)
  obtain ⟨rfl, hb1⟩ := hR
  (repeat (first | with_reducible refine Ops.nil ?_ | refine z_p (kk := ?_)))
  exact W.fret rfl ⟨rfl, hb1⟩
end Go.Proofs.YtcmjlmnfdncajaaGreatDoor
namespace Go.Proofs.YtcmjlmnfdncajaaGreatDoor
open Go Go.RowKit Go.Proofs.YtcmjlmnfdncajaaGreatDoor.VW Go.Proofs.YtcmjlmnfdncajaaGreatDoor.TW
attribute [local irreducible] W Ops OrdA VW.Ord OrdX Wi OpsI OrdF
theorem rOne_c {w : World} {va : Value} {c : Nat} (ha1 : va.oneCell' = true) : Calls Tryz.prog 84 #[va, .int .i64 (c : Int)] w (Ret fun r w' => PR w.heap.size w' r [(va, c)] ∧ Below w.heap.size w w') := by
  refine calls_W (vs := [_, _]) Tryz.func84 rfl (by kernel_rfl) rfl ?_
  (repeat (first | with_reducible refine W.seq ?_ | with_reducible refine Ops.nil ?_ | with_reducible refine W.region ?_ | refine z_p (kk := ?_)))
  refine Ops.bld2 rfl rfl rfl rfl rfl rfl rfl ha1 rfl ?_
  refine Ops.bsG (cs := #[va, .int .i64 (c : Int)]) (vs := [(0, .agg #[va, .int .i64 (c : Int)])]) rfl rfl rfl rfl rfl rfl rfl rfl rfl (by simp [Instr.fill, Value.cells, show Array.range 2 = #[0, 1] from rfl]) (fun w1 r hM => ?_)
  (repeat (first | with_reducible refine Ops.nil ?_ | refine z_p (kk := ?_)))
  exact W.fret rfl ⟨lit_PR hM, Mk.bel hM⟩
set_option maxHeartbeats 16000000 in
theorem rProduct_c {S' : Nat → Prop} {w : World} {va vb : Value} {a b : Od} (hS : ∀ i, S' i → i < w.heap.size) (hA : OM S' w va a) (hB : OM S' w vb b) (ka : okS a) (kb : okS b) :
    Calls Tryz.prog 55 #[va, vb] w (Ret fun r w' => ((∃ o v, prodC a b = some o ∧ r = .tuple #[v, .bool true] ∧ OM S' w' v o ∧ okS o) ∨ (∃ v, prodC a b = none ∧ r = .tuple #[v, .bool false])) ∧ Below w.heap.size w w') := by
  have hB0 := hB
  obtain ⟨la, hRa, hAa⟩ := hA
  obtain ⟨lb, hRb, hAb⟩ := hB
  have hla := hAa.len
  have hlb := hAb.len
  have hza' := len_le_sz a
  have hzb' := len_le_sz b
  have hta := most_top a
  have htb := most_top b
  obtain ⟨Aa, ca, rfl⟩ := hRa.sh
  obtain ⟨Ab, cb, rfl⟩ := hRb.sh
  have knil : okS .nil := ⟨by simp [mostO], by simp [szO]⟩
  have hww : Below w.heap.size w w := Below.refl _ _
  refine calls_W (vs := [_, _]) Tryz.func55 rfl (by kernel_rfl) rfl ?_
  by_cases h0 : la.length = 0
  · have hp : prodC a b = some .nil := by rw [OA_nil hAa h0]; rfl
    rw [h0]
    (repeat (first | with_reducible refine W.seq ?_ | with_reducible refine Ops.nil ?_ | with_reducible refine W.region ?_ | refine z_p (kk := ?_) | refine z_n (kk := ?_) | refine z_l (kk := ?_)))
    refine W.condT rfl (by first | rfl | assumption | (simp only [bnf] <;> omega) | (simp only [*, bnf]; done) | fail) ?_
    (repeat (first | with_reducible refine W.seq ?_ | with_reducible refine Ops.nil ?_ | with_reducible refine W.region ?_ | refine z_p (kk := ?_)))
    exact W.fret rfl ⟨.inl ⟨.nil, _, hp, rfl, OM.nil, knil⟩, hww⟩
  obtain ⟨ae, ac, ar, ve, la2, rfl, rfl, hEa, hAr⟩ := OA_cons hAa (by omega)
  have f0 : ((((ve, ac) :: la2).length : Int) == 0) = false := by rw [beq_eq_false_iff_ne]; simp; omega
  by_cases h1 : lb.length = 0
  · have hp : prodC (.cons ae ac ar) b = some .nil := by rw [OA_nil hAb h1]; rfl
    rw [h1]
    (repeat (first | with_reducible refine W.seq ?_ | with_reducible refine Ops.nil ?_ | with_reducible refine W.region ?_ | refine z_p (kk := ?_) | refine z_y (kk := ?_) | refine z_l (kk := ?_)))
    refine W.condT rfl (by first | rfl | assumption | (simp; done) | (simp; omega)) ?_
    (repeat (first | with_reducible refine W.seq ?_ | with_reducible refine Ops.nil ?_ | with_reducible refine W.region ?_ | refine z_p (kk := ?_)))
    exact W.fret rfl ⟨.inl ⟨.nil, _, hp, rfl, OM.nil, knil⟩, hww⟩
  have hpe : prodC (.cons ae ac ar) b = prodR ae ac ar .nil b := prod_eq ka b .nil kb.1 (by simp [exM])
  have ka0 := ka
  have kb0 := kb
  obtain ⟨ka1, ka2⟩ := ka
  obtain ⟨kb1, kb2⟩ := kb
  simp only [mostO, szO, topO] at ka1 ka2 hta
  have hll : ((ve, ac) :: la2).length = la2.length + 1 := rfl
  have hae := most_top ae
  have har := most_top ar
  have hve1 := hEa.one
  have f9 : (((lb.length : Nat) : Int) == 0) = false := by rw [beq_eq_false_iff_ne]; omega
  (repeat (first | with_reducible refine W.seq ?_ | with_reducible refine Ops.nil ?_ | with_reducible refine W.region ?_ | refine z_p (kk := ?_) | refine z_y (kk := ?_) | refine z_l (kk := ?_)))
  refine W.condF rfl (by first | rfl | assumption | (simp; done) | (simp; omega)) ?_
  (repeat (first | with_reducible refine W.seq ?_ | with_reducible refine Ops.nil ?_ | with_reducible refine W.region ?_ | refine z_p (kk := ?_) | with_reducible refine W.skip ?_ | with_reducible refine W.block ?_))
  refine W.loop (fun m ρ w1 => ∃ (i : Nat) (acc : Od) (v : Value), m = lb.length - i ∧ i ≤ lb.length ∧ ρ = [(0, .slice Aa ((ve, ac) :: la2).length ca), (1, .slice Ab lb.length cb), (6, v), (7, .int .i64 (i : Int))] ∧ Below w.heap.size w w1 ∧ OM S' w1 v acc ∧ okS acc ∧ prodC (.cons ae ac ar) b = prodR ae ac ar acc (dropO b i))
    ⟨_, _, ⟨0, .nil, _, rfl, Nat.zero_le _, rfl, hww, OM.nil, knil, by rw [dropO_zero]; exact hpe⟩, (by repeat (first | exact trivial | refine And.intro rfl ?_))⟩ ?_
  rintro m ρ w1 ⟨i, acc, v, rfl, hi, rfl, hb1, hO, kacc, heq⟩
  have hb11 : Below w1.heap.size w1 w1 := Below.refl _ _
  have hs1 := hb1.size
  have hacm := most_top acc
  obtain ⟨kc1, kc2⟩ := id kacc
  (repeat (first | with_reducible refine W.seq ?_ | with_reducible refine Ops.nil ?_ | with_reducible refine W.region ?_ | refine z_p (kk := ?_) | refine z_l (kk := ?_)))
  (first | refine W.condD rfl (fun hc => ?_) (fun hc => ?_) | refine W.condE rfl (fun hc => ?_) (fun hc => ?_) | refine W.condN rfl (fun hc => ?_) (fun hc => ?_) | refine W.cond rfl (fun hc => ?_) (fun hc => ?_))
  rotate_left
  · have hil : i = lb.length := by omega
    subst hil
    rw [hlb, dropO_len] at heq
    have heq' : prodC (.cons ae ac ar) b = some acc := heq
    (repeat (first | with_reducible refine W.seq ?_ | with_reducible refine Ops.nil ?_ | with_reducible refine W.region ?_ | refine z_p (kk := ?_) | refine W.exit rfl ?_))
    exact W.fret rfl ⟨.inl ⟨acc, v, heq', rfl, hO, kacc⟩, hb1⟩
  have hil : i < lb.length := by omega
  obtain ⟨b2, bM⟩ := hAb.at_ (i := i) (by omega)
  obtain ⟨m1, m2⟩ := nth_most (o := b) (i := i) (by omega)
  have hsz := nthE_sz (o := b) (i := i) (by omega)
  have hmt := most_top (nthE b i)
  rw [dropO_cons (by omega)] at heq
  simp only [prodR] at heq
  have hmul : ac * nthC b i ≤ 1000 * 1000 := Nat.mul_le_mul (by omega) (by omega)
  have hRa1 := hRa.below hb1
  have hRb1 := hRb.below hb1
  have bM1 := bM.below hb1
  refine W.skip ?_
  refine W.seq ?_
  refine W.block ?_
  refine W.seq ?_
  refine W.cut (fun ρ w' => ρ = [(0, .slice Aa ((ve, ac) :: la2).length ca), (1, .slice Ab lb.length cb), (6, v), (7, .int .i64 (i : Int)), (8, .slice none 0 0)] ∧ w' = w1) ?_ ?_
  · (repeat (first | with_reducible refine Ops.nil ?_ | with_reducible refine W.region ?_ | refine z_p (kk := ?_)))
    exact W.endl ⟨_, ⟨rfl, rfl⟩, (by repeat (first | exact trivial | refine And.intro rfl ?_))⟩
  rintro ρ w1' ⟨rfl, rfl⟩
  refine W.seq ?_
  refine W.cut (fun ρ w' => ∃ v8, ρ = [(0, .slice Aa ((ve, ac) :: la2).length ca), (1, .slice Ab lb.length cb), (6, v), (7, .int .i64 (i : Int)), (8, v8)] ∧ Below w1'.heap.size w1' w' ∧ OM S' w' v8 (nxtR ae ac ar (nthE b i) (nthC b i)) ∧ szO (nxtR ae ac ar (nthE b i) (nthC b i)) ≤ 1000 ∧ topO (nxtR ae ac ar (nthE b i) (nthC b i)) ≤ 1000000) ?_ ?_
  · obtain ⟨le, hRe, hAe⟩ := bM
    have hle := hAe.len
    obtain ⟨Ae, ce, hve⟩ := hRe.sh
    by_cases he0 : le.length = 0
    · have hen : nthE b i = .nil := lenO_zero.1 (by omega)
      rw [hen] at *
      have hnx : nxtR ae ac ar .nil (nthC b i) = .cons ae (ac * nthC b i) ar := rfl
      (repeat (first | with_reducible refine W.seq ?_ | with_reducible refine W.region ?_ | refine z_p (kk := ?_) | refine z_R0 (kk := fun _ _ => ?_)))
      rw [hve, he0]
      (repeat (first | with_reducible refine Ops.nil ?_ | refine z_p (kk := ?_) | refine z_l (kk := ?_)))
      refine W.condF rfl (by first | rfl | assumption | (simp only [bnf] <;> omega) | (simp only [*, bnf]; done) | fail) ?_
      refine W.ordF (fun w' => Below w1'.heap.size w1' w') [0, 1, 2, 3, 4, 5, 6, 7, 8, 9, 10, 11, 12, 13, 15, 16, 14, 17, 18] rfl (by kernel_rfl) rfl (fun _ _ _ h => h) (fun w2 k2 _ => ⟨k2.below (Nat.le_refl _) (fun _ _ e => e), ?_⟩)
      have hb12 : Below w1'.heap.size w1' w2 := k2.below (Nat.le_refl _) (fun _ _ e => e)
      (repeat (first | refine f_p (kk := ?_)))
      refine f_R0 (i := 0) (hR := hRa1) (kk := fun _ _ => ?_)
      rw [show (((ve, ac) :: la2).getD 0 default).1 = ve from rfl]
      (repeat (first | refine f_p (kk := ?_)))
      refine f_R1 (i := 0) (hR := hRa1) (kk := fun _ _ => ?_)
      rw [show (((ve, ac) :: la2).getD 0 default).2 = ac from rfl]
      (repeat (first | refine f_p (kk := ?_)))
      refine f_R1 (i := i) (hR := hRb1) (kk := fun _ _ => ?_)
      rw [b2]
      refine OrdF.take (by kernel_rfl) rfl rfl rfl rfl (fun w hF => EV.mulN rfl rfl rfl (by omega)) ?_
      (repeat (first | refine f_p (kk := ?_)))
      refine OrdF.take (by kernel_rfl) rfl rfl rfl rfl (fun w hF => EV.slP (q := 1) rfl rfl rfl rfl rfl (by omega)) ?_
      refine OrdF.one 14 (by kernel_rfl) rfl (Ops.call rfl rfl rfl rfl rfl (rOne_c hve1) (fun r w3 hR => ?_))
      obtain ⟨hP3, hb23⟩ := hR
      have hb13 := Below.via hb12 hb23
      have hRd := (hRa1.slD (q := 1) (by omega)).below hb13
      rw [show ((ve, ac) :: la2).drop 1 = la2 from rfl] at hRd
      refine Ops.nil (W.endl ⟨hb13, ?_⟩)
      have hlal := hAr.len
      have hls : lenO ar ≤ 1000 := by have := len_le_sz ar; omega
      refine OrdF.one 17 (by kernel_rfl) rfl (Ops.appP rfl rfl rfl rfl rfl rfl rfl rfl rfl hP3.2 hRd (OA_one hAr) (by simp only [List.length_cons, List.length_nil]; omega) (fun v4 w4 hO4 k4 hn4 => ?_))
      have hP4 := pr_put hP3 (tr_size hP3.1) hO4 k4.size
      have hb14 : Below w1'.heap.size w1' w4 := Below.put hb13 k4 (fun j hj => by have := pr_ge hP3 j hj; have := hb12.size; omega)
      have hb04 := Below.via hb1 hb14
      have hOA : OA S' w4 (.cons ae (ac * nthC b i) ar) ([(ve, ac * nthC b i)] ++ la2) := by
        obtain ⟨le', q1, q2⟩ := hEa.below hb04
        exact ⟨ve, la2, le', rfl, q1, q2, hAr.kp (kpF hb04) (fun _ e => e.elim)⟩
      have hM4 := pr_OM hP4 (S' := S') (fun j hj => by have := hS j hj; have := hb12.size; omega) hOA (by simp only [lenO]; omega)
      refine Ops.nil (W.endl ⟨hb14, ?_⟩)
      refine OrdF.take (by kernel_rfl) rfl rfl rfl rfl (fun w hF => EV.pu rfl) ?_
      refine OrdF.done (by kernel_rfl) ?_
      skip
      exact W.endl ⟨_, ⟨v4, rfl, hb14, hM4, by rw [hnx]; simp only [szO]; omega, by rw [hnx]; simp only [topO]; omega⟩, (by repeat (first | exact trivial | refine And.intro rfl ?_))⟩
    · have hne : nthE b i ≠ .nil := fun e => he0 (by rw [hle, e]; rfl)
      have hnx : nxtR ae ac ar (nthE b i) (nthC b i) = .cons (addO ae (nthE b i)) (nthC b i) .nil := by
        cases hx : nthE b i with
        | nil => exact absurd hx hne
        | cons _ _ _ => rfl
      have hasz := add_sizes ae (nthE b i)
      (repeat (first | with_reducible refine W.seq ?_ | with_reducible refine W.region ?_ | refine z_p (kk := ?_) | refine z_R0 (kk := fun _ _ => ?_)))
      rw [hve]
      (repeat (first | with_reducible refine Ops.nil ?_ | refine z_p (kk := ?_) | refine z_l (kk := ?_)))
      refine W.condT rfl (by first | (simp; done) | (simp; omega)) ?_
      refine W.ordF (fun w' => Below w1'.heap.size w1' w') [0, 1, 2, 3, 4, 5, 6, 7, 8, 10, 11, 12, 13, 14, 9, 15, 16] rfl (by kernel_rfl) rfl (fun _ _ _ h => h) (fun w2 k2 _ => ⟨k2.below (Nat.le_refl _) (fun _ _ e => e), ?_⟩)
      have hb12 : Below w1'.heap.size w1' w2 := k2.below (Nat.le_refl _) (fun _ _ e => e)
      have hb02 := Below.via hb1 hb12
      have hs2 := hb02.size
      (repeat (first | refine f_p (kk := ?_)))
      refine f_R0 (i := 0) (hR := hRa1) (kk := fun _ _ => ?_)
      rw [show (((ve, ac) :: la2).getD 0 default).1 = ve from rfl]
      (repeat (first | refine f_p (kk := ?_)))
      refine f_R0 (i := i) (hR := hRb1) (kk := fun _ _ => ?_)
      (repeat (first | refine f_p (kk := ?_)))
      refine f_R1 (i := i) (hR := hRb1) (kk := fun _ _ => ?_)
      rw [b2]
      refine OrdF.one 9 (by kernel_rfl) rfl (Ops.call rfl rfl rfl rfl rfl (rSum_c (S' := S') (fun j hj => by have := hS j hj; omega) (hEa.below hb02) (bM1.below hb12) (by omega) (by omega) (by omega) (by omega)) (fun r w3 hR => ?_))
      obtain ⟨hM3, hb23⟩ := hR
      have hb13 := Below.via hb12 hb23
      have hr1 := hM3.one
      have hs3 := hb23.size
      refine Ops.nil (W.endl ⟨hb13, ?_⟩)
      refine OrdF.one 15 (by kernel_rfl) rfl (Ops.call rfl rfl rfl rfl rfl (rOne_c hr1) (fun r4 w4 hR => ?_))
      obtain ⟨hP4, hb34⟩ := hR
      have hb14 := Below.via hb13 hb34
      have hOA : OA S' w4 (.cons (addO ae (nthE b i)) (nthC b i) .nil) [(r, nthC b i)] := by
        obtain ⟨le', q1, q2⟩ := hM3.below hb34
        exact ⟨r, [], le', rfl, q1, q2, rfl⟩
      have hM4 := pr_OM hP4 (S' := S') (fun j hj => by have := hS j hj; omega) hOA (by simp [lenO])
      refine Ops.nil (W.endl ⟨hb14, ?_⟩)
      refine OrdF.take (by kernel_rfl) rfl rfl rfl rfl (fun w hF => EV.pu rfl) ?_
      refine OrdF.done (by kernel_rfl) ?_
      skip
      exact W.endl ⟨_, ⟨r4, rfl, hb14, by rw [hnx]; exact hM4, by rw [hnx]; simp only [szO]; omega, by rw [hnx]; simp only [topO]; omega⟩, (by repeat (first | exact trivial | refine And.intro rfl ?_))⟩
  rintro ρ w2 ⟨v8, rfl, hb12, hM8, hz8, ht8⟩
  have hb02 := Below.via hb1 hb12
  have hs2 := hb02.size
  generalize nxtR ae ac ar (nthE b i) (nthC b i) = nx at *
  have hasz := add_sizes acc nx
  (repeat (first | with_reducible refine W.seq ?_ | with_reducible refine W.region ?_ | refine z_p (kk := ?_)))
  refine Ops.call rfl rfl rfl rfl rfl (rSum_c (S' := S') (fun j hj => by have := hS j hj; omega) (hO.below hb12) hM8 (by omega) (by omega) (by omega) (by omega)) (fun r w3 hR => ?_)
  obtain ⟨hM3, hb23⟩ := hR
  have hb03 := Below.via hb02 hb23
  (repeat (first | with_reducible refine W.seq ?_ | with_reducible refine Ops.nil ?_ | with_reducible refine W.region ?_ | refine z_p (kk := ?_)))
  refine Ops.call rfl rfl rfl rfl rfl (rFull_c (by omega) hM3) (fun rb w4 hR => ?_)
  obtain ⟨rfl, hb34⟩ := hR
  have hb04 := Below.via hb03 hb34
  cases hbg : bigO (addO acc nx) with
  | true =>
    rw [if_pos hbg] at heq
    (repeat (first | with_reducible refine Ops.nil ?_))
    refine W.condT rfl (by first | rfl | assumption | (simp only [bnf] <;> omega) | (simp only [*, bnf]; done) | fail) ?_
    (repeat (first | with_reducible refine W.seq ?_ | with_reducible refine Ops.nil ?_ | with_reducible refine W.region ?_ | refine z_p (kk := ?_)))
    exact W.fret rfl ⟨.inr ⟨_, heq, rfl⟩, hb04⟩
  | false =>
    rw [if_neg (by rw [hbg]; simp)] at heq
    have hbf := of_decide_eq_false hbg
    (repeat (first | with_reducible refine Ops.nil ?_))
    refine W.condF rfl (by first | rfl | assumption | (simp only [bnf] <;> omega) | (simp only [*, bnf]; done) | fail) ?_
    (repeat (first | with_reducible refine Ops.nil ?_ | with_reducible refine W.region ?_ | refine z_p (kk := ?_) | refine z_a (kk := ?_) | with_reducible refine W.skip ?_ | with_reducible refine W.endb ?_))
    exact W.endl ⟨_, _, ⟨⟨i + 1, addO acc nx, r, rfl, by omega, rfl, hb04, hM3.below hb34, ⟨by omega, by omega⟩, heq⟩, by omega⟩, (by repeat (first | exact trivial | refine And.intro rfl ?_))⟩
end Go.Proofs.YtcmjlmnfdncajaaGreatDoor
namespace Go.Proofs.YtcmjlmnfdncajaaGreatDoor
open Go Go.RowKit Go.Proofs.YtcmjlmnfdncajaaGreatDoor.VW Go.Proofs.YtcmjlmnfdncajaaGreatDoor.TW
attribute [local irreducible] W Ops OrdA VW.Ord OrdX Wi OpsI OrdF
set_option maxHeartbeats 8000000 in
theorem rStep_c : ∀ (n : Nat) {S' : Nat → Prop} {w : World} {va : Value} {a : Od} {k : Nat}, szO a ≤ n → n ≤ 100000 → a ≠ .nil → k ≤ 100000 → mostO a ≤ 10000000 → (∀ i, S' i → i < w.heap.size) → OM S' w va a →
    Calls Tryz.prog 28 #[va, .int .i64 (k : Int)] w (Ret fun r w' => OM S' w' r (stepO a k) ∧ Below w.heap.size w w') := by
  intro n
  induction n using Nat.strongRecOn with
  | _ n ih =>
  intro S' w va a k hn hbig hne hk hmo hS hA
  obtain ⟨la, hRa, hAa⟩ := hA
  have hla := hAa.len
  have hlz := len_le_sz a
  have hl0 : 0 < lenO a := Nat.pos_of_ne_zero (fun h => hne (lenO_zero.1 h))
  obtain ⟨f1, f2⟩ := finE_at hne
  have hfs := finE_sz hne
  have hst := step_init k hne
  obtain ⟨a2, aM⟩ := hAa.at_ (i := lenO a - 1) (by omega)
  have hmn := nth_most (o := a) (i := lenO a - 1) (by omega)
  rw [f1, f2] at hmn
  rw [f1] at aM
  rw [f2] at a2
  have ha1 := aM.one
  have hcap : la.length ≤ la.length := Nat.le_refl _
  obtain ⟨Aa, ca, he, hcc, _⟩ := id hRa
  subst he
  have hil := initO_len a
  refine calls_W (vs := [_, _]) Tryz.func28 rfl (by kernel_rfl) rfl ?_
  (repeat (first | with_reducible refine W.seq ?_ | with_reducible refine Ops.nil ?_ | with_reducible refine W.region ?_ | refine z_p (kk := ?_) | refine z_a (kk := ?_) | refine z_l (kk := ?_)))
  rw [show ((la.length : Nat) : Int) - 1 = ((lenO a - 1 : Nat) : Int) by omega]
  (repeat (first | refine z_R2 (kk := fun _ => ?_)))
  rw [a2]
  generalize hva : (la.getD (lenO a - 1) default).1 = ve at *
  refine Ops.alloc rfl rfl rfl rfl (fun w1 b5 hM1 => ?_)
  refine Ops.stN (vs := [ve, .int .i64 (finC a : Nat)]) (cs := [.slice none 0 0, .int .i64 0]) rfl rfl rfl rfl rfl rfl (by intro v hv; simp at hv; rcases hv with rfl | rfl; exact ha1; rfl) rfl hM1.at_ (fun w2 hu2 => ?_)
  have B2 : Blk w2 b5 #[ve, .int .i64 (finC a : Nat)] 100 := hu2.blk
  have e1 := hM1.r_eq
  have hb02 : Below w.heap.size w w2 := Below.put (Mk.bel hM1) hu2.kp (fun i e => by omega)
  (repeat (first | with_reducible refine W.seq ?_ | with_reducible refine Ops.nil ?_ | with_reducible refine W.region ?_ | refine z_p (kk := ?_) | refine z_a (kk := ?_) | refine z_l (kk := ?_)))
  rw [show ((la.length : Nat) : Int) - 1 = ((lenO a - 1 : Nat) : Int) by omega]
  refine z_ev (EV.slH rfl rfl rfl rfl rfl (by omega) (by omega)) (kk := ?_)
  rw [Int.toNat_natCast]
  have hRt := hRa.take (h := lenO a - 1) (by omega)
  have hOAi := OA_init hAa
  rw [hla] at hOAi
  have hti : (la.take (lenO a - 1)).length = lenO a - 1 := by rw [List.length_take]; omega
  have hti2 := hOAi.len
  refine Ops.appP rfl rfl rfl rfl rfl rfl rfl rfl rfl (PR.nil (N := w.heap.size) hb02.size).2 (hRt.below hb02) (OA_one hOAi) (by simp only [List.length_nil]; omega) (fun v6 w3 hO3 k3 hn3 => ?_)
  have hP3' : PR w.heap.size w3 v6 (la.take (lenO a - 1)) := pr_put (PR.nil (N := w.heap.size) hb02.size) (tr_size hb02.size) hO3 k3.size
  have hb23 : Below w2.heap.size w2 w3 := k3.below (Nat.le_refl _) (fun i _ e => by cases e)
  have hb03 := Below.via hb02 hb23
  have B3 := B2.kp (kpF hb23) (fun e => e)
  have hge6 : ∀ i, v6.ownBlock = some i → w2.heap.size ≤ i := fun i hi => by rcases hn3 i hi with q | q; cases q; exact q
  have hb5 := B2.lt
  clear B2 hu2 hM1
  refine z_p (kk := ?_)
  refine Ops.nil ?_
  refine W.seq ?_
  refine W.cut (fun ρ w4 => ∃ (v : Value) (l : List (Value × Nat)) (o : Od), ρ = [(1, .int .i64 (k : Int)), (5, .pointer (some ⟨b5, 0, none⟩)), (6, v)] ∧ PR w.heap.size w4 v l ∧ OA S' w o l ∧ (∀ i, v.ownBlock = some i → w2.heap.size ≤ i) ∧ Below w.heap.size w w4 ∧ Blk w4 b5 #[ve, .int .i64 (finC a : Nat)] 100 ∧ (∀ t, appO o t = appO (initO a) (cutS (finE a) (finC a) t)) ∧ lenO o ≤ lenO a) ?_ ?_
  · (repeat (first | with_reducible refine W.seq ?_ | with_reducible refine Ops.nil ?_ | with_reducible refine W.region ?_ | refine z_p (kk := ?_) | refine z_f (kk := ?_) | refine z_d (kk := ?_)))
    by_cases hc : 1 < finC a
    · refine W.condT rfl (by first | rfl | assumption | (simp only [bnf] <;> omega) | (simp only [*, bnf]; done) | fail) ?_
      (repeat (first | with_reducible refine W.region ?_ | refine z_p (kk := ?_) | refine z_a (kk := ?_) | refine z_f (kk := ?_) | refine z_d (kk := ?_)))
      rw [show ((finC a : Nat) : Int) - 1 = ((finC a - 1 : Nat) : Int) by omega]
      refine Ops.bld2 rfl rfl rfl rfl rfl rfl rfl ha1 rfl ?_
      refine Ops.pushP (fa := pA) (fb := pB) (z := (ve, finC a - 1)) rfl rfl rfl rfl rfl rfl rfl rfl rfl rfl rfl (fun _ => rfl) ha1 rfl hP3'.2 (by omega) (fun lv' p w4 hO4 k4 hn4 => ?_)
      have hP4 := pr_put hP3' (tr_size hP3'.1) hO4 k4.size
      have hls : lenO (snocO (initO a) (finE a) (finC a - 1)) = lenO (initO a) + 1 := by unfold snocO; rw [lenO_app]; rfl
      (repeat (first | with_reducible refine Ops.nil ?_ | refine z_p (kk := ?_)))
      exact W.endl ⟨_, ⟨lv', _, snocO (initO a) (finE a) (finC a - 1), rfl, hP4, OA_snoc aM hOAi, fun i hi => by rcases hn4 i hi with q | q; exact hge6 i q; have := hb23.size; omega, Below.put hb03 k4 (fun i hi => pr_ge hP3' i hi), B3.kp k4 (fun q => by have := hge6 _ q; omega), fun t => by rw [appO_snoc]; unfold cutS; rw [if_pos hc], by omega⟩, (by repeat (first | exact trivial | refine And.intro rfl ?_))⟩
    · refine W.condF rfl (by first | rfl | assumption | (simp only [bnf] <;> omega) | (simp only [*, bnf]; done) | fail) ?_
      (repeat (first | with_reducible refine W.skip ?_))
      exact W.endl ⟨_, ⟨v6, _, initO a, rfl, hP3', hOAi, hge6, hb03, B3, fun t => by unfold cutS; rw [if_neg hc], by omega⟩, (by repeat (first | exact trivial | refine And.intro rfl ?_))⟩
  · clear hP3' hb23 B3 hge6 hb03 hOAi hti hti2
    rintro ρ w4 ⟨v, l, o, rfl, hP4, hOA, hge, hb04, B4, heq, hlo⟩
    have hlen := hOA.len
    have hP4s := hP4.1
    have hb44 : Below w4.heap.size w4 w4 := Below.refl _ _
    rw [← heq] at hst
    refine W.seq ?_
    refine W.cut (fun ρ w6 => ∃ (v : Value) (l : List (Value × Nat)) (o : Od), ρ = [(6, v)] ∧ PR w.heap.size w6 v l ∧ OA S' w6 o l ∧ o = stepO a k ∧ Below w.heap.size w w6 ∧ lenO o ≤ 1000000) ?_ ?_
    · (repeat (first | with_reducible refine W.seq ?_ | with_reducible refine W.region ?_ | refine z_f (kk := ?_) | refine z_d (kk := ?_)))
      refine Ops.callS rfl rfl rfl rfl rfl (rKind_c (aM.below hb04)) ?_
      (repeat (first | with_reducible refine W.seq ?_ | with_reducible refine Ops.nil ?_ | with_reducible refine W.region ?_ | refine z_p (kk := ?_) | with_reducible refine W.block ?_))
      have hkl := kind_lt (finE a)
      -- the step of the exponent
      have hnn : kindO (finE a) ≠ 0 → finE a ≠ .nil := fun h e => h (kind_zero.2 e)
      have hstep : ∀ k : Nat, k ≤ 100000 → kindO (finE a) ≠ 0 → Calls Tryz.prog 28 #[ve, .int .i64 (k : Int)] w4 (Ret fun r w' => OM (fun i => S' i ∨ v.ownBlock = some i) w' r (stepO (finE a) k) ∧ Below w4.heap.size w4 w') := fun k hk h =>
        ih _ (show szO (finE a) < n by omega) (Nat.le_refl _) (by omega) (hnn h) hk (by omega) (fun i hi => by
          rcases hi with hi | hi
          · have := hS i hi; omega
          · exact (hP4.2.own.lt i hi).2) ((aM.more (S' := fun i => S' i ∨ v.ownBlock = some i) (fun i hi => by
          rcases hi with hi | hi
          · exact .inl hi
          · exact .inr (pr_ge hP4 i hi))).below hb04)
      by_cases h1 : kindO (finE a) = 1
      · have hcs := hstep 0 (by omega) (by omega)
        rw [step_succ 0 k h1] at hcs
        rw [h1] at hst ⊢
        refine W.condT rfl (by first | rfl | assumption | (simp only [bnf] <;> omega) | (simp only [*, bnf]; done) | fail) ?_
        (repeat (first | with_reducible refine W.seq ?_ | with_reducible refine Ops.nil ?_ | with_reducible refine W.region ?_ | refine z_p (kk := ?_)))
        by_cases hk0 : 0 < k
        · have htl : tlS 1 (stepO (finE a) k) k = .cons (stepO (finE a) k) k .nil := by simp [tlS, hk0]
          rw [htl] at hst
          refine W.condT rfl (by first | rfl | assumption | (simp only [bnf] <;> omega) | (simp only [*, bnf]; done) | fail) ?_
          (repeat (first | with_reducible refine W.region ?_ | refine z_p (kk := ?_) | refine z_f (kk := ?_) | refine z_d (kk := ?_)))
          refine Ops.call rfl rfl rfl rfl rfl hcs (fun vs w5 hR => ?_)
          obtain ⟨hM5, hb45⟩ := hR
          have hvs := hM5.one
          have hP5 := pr_kp hP4 (kpF hb45) (fun _ _ e => e)
          have hb05 := Below.via hb04 hb45
          (repeat (first | refine z_p (kk := ?_)))
          refine Ops.bld2 rfl rfl rfl rfl rfl rfl rfl hvs rfl ?_
          refine Ops.pushP (fa := pA) (fb := pB) (z := (vs, k)) rfl rfl rfl rfl rfl rfl rfl rfl rfl rfl rfl (fun _ => rfl) hvs rfl hP5.2 (by omega) (fun lv' p w6 hO6 k6 hn6 => ?_)
          have hP6 := pr_put hP5 (tr_size hP5.1) hO6 k6.size
          have hb06 := Below.put hb05 k6 (fun i hi => pr_ge hP5 i hi)
          have hM6 := (hM5.kp k6 (fun i hi => .inr hi)).more (S' := S') (fun i hi => .inl (.inl hi))
          have hls : lenO (snocO o (stepO (finE a) k) k) = lenO o + 1 := by unfold snocO; rw [lenO_app]; rfl
          (repeat (first | with_reducible refine Ops.nil ?_ | refine z_p (kk := ?_) | with_reducible refine W.endb ?_))
          exact W.endl ⟨_, ⟨lv', _, snocO o (stepO (finE a) k) k, rfl, hP6, OA_snoc hM6 (hOA.kp (kpF hb06) (fun _ e => e.elim)), hst.symm, hb06, by omega⟩, (by repeat (first | exact trivial | refine And.intro rfl ?_))⟩
        · have htl : tlS 1 (stepO (finE a) k) k = .nil := by simp [tlS, hk0]
          rw [htl, appO_nil] at hst
          refine W.condF rfl (by first | rfl | assumption | (simp only [bnf] <;> omega) | (simp only [*, bnf]; done) | fail) ?_
          (repeat (first | with_reducible refine W.skip ?_ | with_reducible refine W.endb ?_))
          exact W.endl ⟨_, ⟨v, l, o, rfl, hP4, hOA.kp (kpF hb04) (fun _ e => e.elim), hst.symm, hb04, by omega⟩, (by repeat (first | exact trivial | refine And.intro rfl ?_))⟩
      · by_cases h2 : kindO (finE a) = 2
        · rw [h2] at hst ⊢
          have hcs := hstep k hk (by omega)
          have htl : tlS 2 (stepO (finE a) k) k = .cons (stepO (finE a) k) 1 .nil := by simp [tlS]
          rw [htl] at hst
          refine W.condF rfl (by first | rfl | assumption | (simp only [bnf] <;> omega) | (simp only [*, bnf]; done) | fail) ?_
          (repeat (first | with_reducible refine W.seq ?_ | with_reducible refine Ops.nil ?_ | with_reducible refine W.region ?_ | refine z_p (kk := ?_)))
          refine W.condT rfl (by first | rfl | assumption | (simp only [bnf] <;> omega) | (simp only [*, bnf]; done) | fail) ?_
          (repeat (first | with_reducible refine W.region ?_ | refine z_p (kk := ?_) | refine z_f (kk := ?_) | refine z_d (kk := ?_)))
          refine Ops.call rfl rfl rfl rfl rfl hcs (fun vs w5 hR => ?_)
          obtain ⟨hM5, hb45⟩ := hR
          have hvs := hM5.one
          have hP5 := pr_kp hP4 (kpF hb45) (fun _ _ e => e)
          have hb05 := Below.via hb04 hb45
          skip
          refine Ops.bld2 rfl rfl rfl rfl rfl rfl rfl hvs rfl ?_
          refine Ops.pushP (fa := pA) (fb := pB) (z := (vs, 1)) rfl rfl rfl rfl rfl rfl rfl rfl rfl rfl rfl (fun _ => rfl) hvs rfl hP5.2 (by omega) (fun lv' p w6 hO6 k6 hn6 => ?_)
          have hP6 := pr_put hP5 (tr_size hP5.1) hO6 k6.size
          have hb06 := Below.put hb05 k6 (fun i hi => pr_ge hP5 i hi)
          have hM6 := (hM5.kp k6 (fun i hi => .inr hi)).more (S' := S') (fun i hi => .inl (.inl hi))
          have hls : lenO (snocO o (stepO (finE a) k) 1) = lenO o + 1 := by unfold snocO; rw [lenO_app]; rfl
          (repeat (first | with_reducible refine Ops.nil ?_ | refine z_p (kk := ?_) | with_reducible refine W.endb ?_))
          exact W.endl ⟨_, ⟨lv', _, snocO o (stepO (finE a) k) 1, rfl, hP6, OA_snoc hM6 (hOA.kp (kpF hb06) (fun _ e => e.elim)), hst.symm, hb06, by omega⟩, (by repeat (first | exact trivial | refine And.intro rfl ?_))⟩
        · have h0 : kindO (finE a) = 0 := by omega
          rw [h0] at hst ⊢
          have htl : tlS 0 (stepO (finE a) k) k = .nil := by simp [tlS]
          rw [htl, appO_nil] at hst
          refine W.condF rfl (by first | rfl | assumption | (simp only [bnf] <;> omega) | (simp only [*, bnf]; done) | fail) ?_
          (repeat (first | with_reducible refine W.seq ?_ | with_reducible refine Ops.nil ?_ | with_reducible refine W.region ?_ | refine z_p (kk := ?_)))
          refine W.condF rfl (by first | rfl | assumption | (simp only [bnf] <;> omega) | (simp only [*, bnf]; done) | fail) ?_
          (repeat (first | with_reducible refine W.skip ?_ | with_reducible refine W.endb ?_))
          exact W.endl ⟨_, ⟨v, l, o, rfl, hP4, hOA.kp (kpF hb04) (fun _ e => e.elim), hst.symm, hb04, by omega⟩, (by repeat (first | exact trivial | refine And.intro rfl ?_))⟩
    · rintro ρ w6 ⟨v7, l7, o7, rfl, hP7, hOA7, rfl, hb06, hlo7⟩
      (repeat (first | with_reducible refine W.seq ?_ | with_reducible refine Ops.nil ?_ | with_reducible refine W.region ?_ | refine z_p (kk := ?_)))
      exact W.fret rfl ⟨pr_OM hP7 hS hOA7 (by omega), hb06⟩
end Go.Proofs.YtcmjlmnfdncajaaGreatDoor
namespace Go.Proofs.YtcmjlmnfdncajaaGreatDoor
open Go Go.RowKit Go.Proofs.YtcmjlmnfdncajaaGreatDoor.VW Go.Proofs.YtcmjlmnfdncajaaGreatDoor.TW
attribute [local irreducible] W Ops OrdA VW.Ord OrdX Wi OpsI OrdF
theorem OM.asH {S : Nat → Prop} {w : World} {v : Value} {o : Od} (h : OM S w v o) : ∃ x : HS, v = eH x := by
  obtain ⟨l, hR, hA⟩ := h
  obtain ⟨A, c, rfl⟩ := hR.sh
  exact ⟨(A, l.length, c), rfl⟩
theorem same_c {S' : Nat → Prop} {w : World} {s : List UInt8} {e : Int} {v : Value} {o : Od} {B : Bool} (hB : B = true → s = [] ∧ e = 5) (hB2 : B = false → s = txO o ∧ e = 0 ∧ OM S' w v o ∧ szO o ≤ 1000000 ∧ mostO o ≤ 9999) :
    Calls Tryz.prog 29 #[S s, .int .i64 e, v, .bool B] w (Ret fun r w' => r = .bool true ∧ Below w.heap.size w w') := by
  refine calls_W (vs := [_, _, _, _]) Tryz.func29 rfl (by kernel_rfl) rfl ?_
  cases B with
  | true =>
    obtain ⟨rfl, rfl⟩ := hB rfl
    (repeat (first | with_reducible refine W.seq ?_ | with_reducible refine Ops.nil ?_ | with_reducible refine W.region ?_ | refine z_p (kk := ?_)))
    refine W.condT rfl (by first | rfl | assumption | (simp only [bnf] <;> omega) | (simp only [*, bnf]; done) | fail) ?_
    (repeat (first | with_reducible refine W.seq ?_ | with_reducible refine Ops.nil ?_ | with_reducible refine W.region ?_ | refine z_p (kk := ?_) | refine z_y (kk := ?_) | refine z_ev (EV.seq rfl rfl rfl rfl) (kk := ?_)))
    exact W.fret rfl ⟨rfl, Below.refl _ _⟩
  | false =>
    obtain ⟨rfl, rfl, hM, hz, hm⟩ := hB2 rfl
    have hd : decide (txO o = txO o) = true := by simp
    (repeat (first | with_reducible refine W.seq ?_ | with_reducible refine Ops.nil ?_ | with_reducible refine W.region ?_ | refine z_p (kk := ?_)))
    refine W.condF rfl (by first | rfl | assumption | (simp only [bnf] <;> omega) | (simp only [*, bnf]; done) | fail) ?_
    (repeat (first | with_reducible refine W.seq ?_ | with_reducible refine W.region ?_ | refine z_p (kk := ?_) | with_reducible refine W.skip ?_))
    refine Ops.call rfl rfl rfl rfl rfl (refText_c _ (Nat.le_refl _) (by omega) hm hM) (fun r w1 hR => ?_)
    obtain ⟨rfl, hb1⟩ := hR
    (repeat (first | with_reducible refine Ops.nil ?_ | refine z_p (kk := ?_) | refine z_y (kk := ?_) | refine z_ev (EV.seq rfl rfl rfl rfl) (kk := ?_) | refine z_h (kk := ?_)))
    exact W.fret rfl ⟨rfl, hb1⟩
theorem desO_nil {f n : Nat} : desW bigO (f + 1) .nil n = some [.nil] := rfl
theorem desO_big {f n : Nat} {a : Od} (ha : a ≠ .nil) (h : bigO (stepO a n) = true) : desW bigO (f + 1) a n = none := by
  cases a with
  | nil => exact absurd rfl ha
  | cons e c r => simp only [desW]; rw [if_pos h]
theorem desO_go {f n : Nat} {a : Od} (ha : a ≠ .nil) (h : bigO (stepO a n) = false) : desW bigO (f + 1) a n = (desW bigO f (stepO a n) (n + 1)).map (a :: ·) := by
  cases a with
  | nil => exact absurd rfl ha
  | cons e c r => simp only [desW]; rw [if_neg (by rw [h]; simp)]
set_option maxHeartbeats 16000000 in
theorem rDescent_c {S' : Nat → Prop} {w : World} {va : Value} {a : Od} {n : Nat} (hz0 : szO a ≤ 60) (hm0 : mostO a ≤ 1000) (hn : n ≤ 1000) (hS : ∀ i, S' i → i < w.heap.size) (hA : OM S' w va a) :
    Calls Tryz.prog 31 #[va, .int .i64 (n : Int)] w (Ret fun r w' => ((desW bigO 300 a n = none ∧ ∃ v, r = .tuple #[v, .bool false]) ∨ (∃ l v hs, desW bigO 300 a n = some l ∧ r = .tuple #[v, .bool true] ∧ R1 S' w' v hs ∧ LM S' w' hs l)) ∧ Below w.heap.size w w') := by
  obtain ⟨x0, rfl⟩ := hA.asH
  refine calls_W (vs := [_, _]) Tryz.func31 rfl (by kernel_rfl) rfl ?_
  (repeat (first | with_reducible refine W.seq ?_ | with_reducible refine Ops.nil ?_ | with_reducible refine W.region ?_ | refine z_p (kk := ?_)))
  refine Ops.bs1 rfl rfl rfl rfl rfl rfl rfl rfl rfl (fun w1 r hM => ?_)
  have hb01 := Mk.bel hM
  have e1 := hM.r_eq
  have s1 := hb01.size
  have hL1 : LO 42 eH w.heap.size w1 (.slice (some ⟨r, 0, none⟩) 1 1) [x0] := ⟨own_one hM, fun i hi => by simp [Value.ownBlock] at hi; omega⟩
  have hA1 : OM (fun i => S' i ∨ (Value.slice (some ⟨r, 0, none⟩) 1 1).ownBlock = some i) w1 (eH x0) a := (hA.more (S' := fun i => S' i ∨ (Value.slice (some ⟨r, 0, none⟩) 1 1).ownBlock = some i) (fun i h => by
    rcases h with h | h
    · exact .inl h
    · have := hL1.ge i h; exact .inr this)).below hb01
  have hLM1 : LM (fun i => S' i ∨ (Value.slice (some ⟨r, 0, none⟩) 1 1).ownBlock = some i) w1 [x0] [a] := LM.nil.snoc hA1
  generalize hlv : Value.slice (some ⟨r, 0, none⟩) 1 1 = lv0 at *
  (repeat (first | with_reducible refine W.seq ?_ | with_reducible refine Ops.nil ?_ | refine z_p (kk := ?_) | with_reducible refine W.block ?_))
  refine W.loop (fun m ρ w2 => ∃ (a' : Od) (n' : Nat) (pre : List Od) (hs : List HS) (x : HS) (lv : Value), m = 300 - pre.length ∧ ρ = [(0, eH x), (1, .int .i64 (n' : Int)), (6, lv)] ∧ pre.length ≤ 299 ∧ n' = n + pre.length ∧ Below w.heap.size w w2 ∧ LO 42 eH w.heap.size w2 lv hs ∧
      OM (fun i => S' i ∨ lv.ownBlock = some i) w2 (eH x) a' ∧ LM (fun i => S' i ∨ lv.ownBlock = some i) w2 hs (pre ++ [a']) ∧ szO a' ≤ 60 ∧ mostO a' ≤ 1000 ∧ desW bigO 300 a n = (desW bigO (300 - pre.length) a' n').map (pre ++ ·))
    ⟨_, _, ⟨a, n, [], [x0], x0, lv0, rfl, rfl, Nat.zero_le _, rfl, hb01, hL1, hA1, hLM1, hz0, hm0, by simp⟩, (by repeat (first | exact trivial | refine And.intro rfl ?_))⟩ ?_
  clear hL1 hA1 hLM1
  rintro m ρ w2 ⟨a', n', pre, hs, x, lv, rfl, rfl, hpl, hn', hb02, hL, hO, hLM, hz, hm, hdes⟩
  have hhl : hs.length = pre.length + 1 := by rw [hLM.1]; simp
  have s2 := hb02.size
  obtain ⟨f, hf⟩ : ∃ f, 300 - pre.length = f + 1 := ⟨299 - pre.length, by omega⟩
  rw [hf] at hdes
  have hb22 : Below w2.heap.size w2 w2 := Below.refl _ _
  obtain ⟨l, hRl, hAl⟩ := id hO
  have hll := hAl.len
  obtain ⟨Ax, cx, hx⟩ := hRl.sh
  by_cases hnil : a' = .nil
  · subst hnil
    have h0 : l.length = 0 := hll
    rw [desO_nil] at hdes
    rw [hx, h0]
    (repeat (first | with_reducible refine W.seq ?_ | with_reducible refine Ops.nil ?_ | with_reducible refine W.region ?_ | refine z_p (kk := ?_) | refine z_l (kk := ?_)))
    refine W.condF rfl (by first | rfl | assumption | (simp only [bnf] <;> omega) | (simp only [*, bnf]; done) | fail) ?_
    (repeat (first | with_reducible refine W.seq ?_ | with_reducible refine Ops.nil ?_ | with_reducible refine W.region ?_ | refine z_p (kk := ?_) | refine W.exit rfl ?_))
    refine W.fret rfl ⟨.inr ⟨pre ++ [Od.nil], lv, hs, by rw [hdes]; rfl, rfl, ?_, hLM.1, fun i hi => (hLM.2 i hi).more (fun j hj => .inl (.inl hj))⟩, hb02⟩
    exact hL.r1 s2 (by omega) hS
  · have hlp : 0 < l.length := Nat.pos_of_ne_zero (fun h => hnil (lenO_zero.1 (by omega)))
    have hS2 : ∀ i, (S' i ∨ lv.ownBlock = some i) → i < w2.heap.size := fun i h => by
      rcases h with h | h
      · have := hS i h; omega
      · exact (hL.own.lt i h).2
    have hsm := step_most a' n'
    have hss := step_sz a' n'
    have hsq : szO a' * (szO a' + 1) ≤ 60 * 61 := Nat.mul_le_mul hz (by omega)
    rw [hx]
    (repeat (first | with_reducible refine W.seq ?_ | with_reducible refine Ops.nil ?_ | with_reducible refine W.region ?_ | refine z_p (kk := ?_) | refine z_l (kk := ?_)))
    refine W.condT rfl (by first | (simp; done) | (simp; omega)) ?_
    rw [← hx]
    (repeat (first | with_reducible refine W.seq ?_ | with_reducible refine W.region ?_ | refine z_p (kk := ?_) | with_reducible refine W.skip ?_ | with_reducible refine W.block ?_))
    refine Ops.call rfl rfl rfl rfl rfl (rStep_c _ (Nat.le_refl _) (by omega) hnil (by omega) (by omega) hS2 hO) (fun v3 w3 hR => ?_)
    obtain ⟨hO3, hb23⟩ := hR
    have hb03 := Below.via hb02 hb23
    obtain ⟨y, rfl⟩ := hO3.asH
    (repeat (first | with_reducible refine W.seq ?_ | with_reducible refine Ops.nil ?_ | with_reducible refine W.region ?_ | refine z_p (kk := ?_) | refine z_a (kk := ?_)))
    refine Ops.call rfl rfl rfl rfl rfl (rFull_c (by omega) hO3) (fun r w4 hR => ?_)
    obtain ⟨rfl, hb34⟩ := hR
    have hb24 := Below.via hb23 hb34
    have hb04 := Below.via hb02 hb24
    have hL4 := hL.below hb24
    have hLM4 := hLM.below hb24
    have hO4 := hO3.below hb34
    cases hbg : bigO (stepO a' n') with
    | true =>
      rw [desO_big hnil hbg] at hdes
      (repeat (first | with_reducible refine Ops.nil ?_ | refine z_p (kk := ?_) | refine z_n (kk := ?_)))
      refine W.condT rfl (by first | rfl | assumption | (simp only [bnf] <;> omega) | (simp only [*, bnf]; done) | fail) ?_
      (repeat (first | with_reducible refine W.seq ?_ | with_reducible refine Ops.nil ?_ | with_reducible refine W.region ?_ | refine z_p (kk := ?_)))
      exact W.fret rfl ⟨.inl ⟨hdes, _, rfl⟩, hb04⟩
    | false =>
      rw [desO_go hnil hbg] at hdes
      have hbf := of_decide_eq_false hbg
      obtain ⟨Al, cl, hlv2⟩ := hL4.sh
      by_cases h300 : hs.length = 300
      · have hf0 : f = 0 := by omega
        subst hf0
        have hno : desW bigO 300 a n = none := by rw [hdes]; rfl
        rw [hlv2, h300]
        (repeat (first | with_reducible refine Ops.nil ?_ | refine z_p (kk := ?_) | refine z_y (kk := ?_) | refine z_l (kk := ?_)))
        refine W.condT rfl (by first | rfl | assumption | (simp only [bnf] <;> omega) | (simp only [*, bnf]; done) | fail) ?_
        (repeat (first | with_reducible refine W.seq ?_ | with_reducible refine Ops.nil ?_ | with_reducible refine W.region ?_ | refine z_p (kk := ?_)))
        exact W.fret rfl ⟨.inl ⟨hno, _, rfl⟩, hb04⟩
      · have f1 : ((((hs.length : Nat) : Int)) == 300) = false := by rw [beq_eq_false_iff_ne]; omega
        rw [hlv2]
        (repeat (first | with_reducible refine Ops.nil ?_ | refine z_p (kk := ?_) | refine z_y (kk := ?_) | refine z_l (kk := ?_)))
        refine W.condF rfl (by first | rfl | assumption | (simp; done) | (simp; omega)) ?_
        rw [← hlv2]
        (repeat (first | with_reducible refine W.region ?_ | refine z_p (kk := ?_) | with_reducible refine W.skip ?_))
        refine Ops.pushO (enc := eH) (u := y) rfl rfl rfl rfl rfl rfl rfl rfl rfl rfl rfl rfl (fun _ => rfl) rfl (hL4.base hb04.size) (by omega) (fun lv' p w5 hO5 k5 hn5 => ?_)
        replace hO5 := LO.put hO5 hb04.size
        have hst : ∀ i, (S' i ∨ lv'.ownBlock = some i) → (S' i ∨ lv.ownBlock = some i) ∨ w4.heap.size ≤ i := fun i h => by
          rcases h with h | h
          · exact .inl (.inl h)
          · rcases hn5 i h with q | q
            · exact .inl (.inr q)
            · exact .inr q
        have hOM5 := hO4.put k5 (fun i h => .inr h) hst
        have hLM5 := (hLM4.put k5 (fun i h => .inr h) hst).snoc hOM5
        have hb05 : Below w.heap.size w w5 := Below.put hb04 k5 (fun j hj => hL4.ge j hj)
        (repeat (first | with_reducible refine Ops.nil ?_ | refine z_p (kk := ?_) | with_reducible refine W.endb ?_))
        refine W.endl ⟨_, _, ⟨⟨stepO a' n', n' + 1, pre ++ [a'], hs ++ [y], y, lv', rfl, rfl, by simp; omega, by simp; omega, hb05, hO5, hOM5, hLM5, by omega, by omega, ?_⟩, by simp; omega⟩, (by repeat (first | exact trivial | refine And.intro rfl ?_))⟩
        rw [hdes, show 300 - (pre ++ [a']).length = f by simp; omega, Option.map_map]
        congr 1
        funext q
        simp
end Go.Proofs.YtcmjlmnfdncajaaGreatDoor
namespace Go.Proofs.YtcmjlmnfdncajaaGreatDoor
open Go Go.RowKit Go.Proofs.YtcmjlmnfdncajaaGreatDoor.VW Go.Proofs.YtcmjlmnfdncajaaGreatDoor.TW
attribute [local irreducible] W Ops OrdA VW.Ord OrdX Wi OpsI OrdF
/-- A list of one part, made, as a row of the call's own. -/
theorem own_lit2 {w w1 : World} {r c : Nat} {va : Value} (hM : Mk w w1 r (.cells #[va, .int .i64 (c : Int)] 119)) : w1.ownsRow 0 119 2 (.slice (some ⟨r, 0, none⟩) 1 1) 1 (fp2 pA pB [(va, c)]) :=
  ⟨by simp [fp2], .inr ⟨r, 1, #[va, .int .i64 (c : Int)], rfl, Nat.zero_le _, hM.at_, Nat.le_refl _, by simp [maxLen], by simp, by simp [fp2, pA, pB]⟩⟩
theorem demandT_c (e : Int) (w : World) : Calls Tryz.prog 62 #[.bool true, .int .i64 e] w (Ret fun r w' => r = .tuple #[] ∧ w' = w) := by
  refine calls_W (vs := [_, _]) Tryz.func62 rfl (by kernel_rfl) rfl ?_
  (repeat (first | with_reducible refine W.seq ?_ | with_reducible refine Ops.nil ?_ | with_reducible refine W.region ?_ | refine z_p (kk := ?_)))
  refine W.condF rfl (by first | rfl | assumption | (simp only [bnf] <;> omega) | (simp only [*, bnf]; done) | fail) ?_
  (repeat (first | with_reducible refine W.skip ?_))
  exact W.fend rfl ⟨rfl, rfl⟩
theorem rest_at {a b : Od} {i : Nat} (ha : i < lenO a) (hb : i < lenO b) : restO (dropO a i) (dropO b i) = if cmpO (nthE a i) (nthE b i) < 0 then some (dropO b i) else if cmpO (nthE a i) (nthE b i) = 0 ∧ nthC a i ≤ nthC b i then (if nthC a i < nthC b i then some (.cons (nthE b i) (nthC b i - nthC a i) (dropO b (i + 1))) else restO (dropO a (i + 1)) (dropO b (i + 1))) else none := by
  rw [dropO_cons ha, dropO_cons (o := b) hb, restO]
set_option maxHeartbeats 8000000 in
theorem rest_c {S' : Nat → Prop} {w : World} {va vb : Value} {a b : Od} (hS : ∀ i, S' i → i < w.heap.size) (hA : OM S' w va a) (hB : OM S' w vb b) (hza : szO a ≤ 100000) (hzb : szO b ≤ 100000) (hta : topO a ≤ 10000000) (htb : topO b ≤ 10000000) :
    Calls Tryz.prog 97 #[va, vb] w (RetP (fun r w' => ∃ o, restO a b = some o ∧ OM S' w' r o ∧ Below w.heap.size w w') (fun ch w' => ch = trb 6 ∧ restO a b = none ∧ Below w.heap.size w w')) := by
  obtain ⟨la, hRa, hAa⟩ := hA
  obtain ⟨lb, hRb, hAb⟩ := hB
  have hla := hAa.len
  have hlb := hAb.len
  have hza' := len_le_sz a
  have hzb' := len_le_sz b
  obtain ⟨Aa, ca, rfl⟩ := hRa.sh
  obtain ⟨Ab, cb, rfl⟩ := hRb.sh
  refine calls_WP (vs := [_, _]) Tryz.func97 rfl (by kernel_rfl) rfl ?_
  (repeat (first | with_reducible refine W.seq ?_ | with_reducible refine Ops.nil ?_ | with_reducible refine W.region ?_ | refine z_p (kk := ?_) | with_reducible refine W.block ?_ | refine z_l (kk := ?_)))
  refine W.loop (fun m ρ w3 => ∃ i : Nat, m = lb.length - i ∧ i ≤ lb.length ∧ i ≤ la.length ∧ ρ = [(0, .slice Aa la.length ca), (1, .slice Ab lb.length cb), (7, .slice Ab lb.length cb), (8, .int .i64 lb.length), (9, .int .i64 i)] ∧ Below w.heap.size w w3 ∧ restO a b = restO (dropO a i) (dropO b i))
    ⟨_, _, ⟨0, rfl, Nat.zero_le _, Nat.zero_le _, rfl, Below.refl _ _, by rw [dropO_zero, dropO_zero]⟩, (by repeat (first | exact trivial | refine And.intro rfl ?_))⟩ ?_
  rintro m ρ w3 ⟨i, rfl, hi, hia, rfl, hb03, heq⟩
  have hb33 : Below w3.heap.size w3 w3 := Below.refl _ _
  by_cases hil : i < lb.length
  · obtain ⟨b2, bM⟩ := hAb.at_ (i := i) (by omega)
    have hb1 := bM.one
    have htd := top_le htb (i := i) (by omega)
    generalize hvb : (lb.getD i default).1 = vb at *
    (repeat (first | with_reducible refine W.seq ?_ | with_reducible refine Ops.nil ?_ | with_reducible refine W.region ?_ | refine z_p (kk := ?_)))
    refine W.condT rfl (by first | rfl | assumption | (simp only [bnf] <;> omega) | (simp only [*, bnf]; done) | fail) ?_
    (repeat (first | with_reducible refine W.seq ?_ | with_reducible refine W.region ?_ | refine z_p (kk := ?_) | with_reducible refine W.skip ?_ | with_reducible refine W.block ?_ | refine z_R2 (kk := fun _ => ?_)))
    rw [hvb, b2]
    refine Ops.alloc rfl rfl rfl rfl (fun w4 b6 hM4 => ?_)
    (repeat (first | refine z_p (kk := ?_)))
    refine Ops.stN (vs := [vb, .int .i64 (nthC b i : Nat)]) (cs := [.slice none 0 0, .int .i64 0]) rfl rfl rfl rfl rfl rfl (by intro v hv; simp at hv; rcases hv with rfl | rfl; exact hb1; rfl) rfl hM4.at_ (fun w5 hu5 => ?_)
    have B5 : Blk w5 b6 #[vb, .int .i64 (nthC b i : Nat)] 119 := hu5.blk
    have e4 := hM4.r_eq
    have hb35 : Below w3.heap.size w3 w5 := Below.put (Mk.bel hM4) hu5.kp (fun k e => by omega)
    have hb05 := Below.via hb03 hb35
    have hb55 : Below w5.heap.size w5 w5 := Below.refl _ _
    have hRa5 := hRa.below hb05
    have hRb5 := hRb.below hb05
    clear hb33 hM4 hu5
    by_cases hend : i = la.length
    · have hd : dropO a i = .nil := by rw [hend, hla]; exact dropO_len a
      (repeat (first | with_reducible refine W.seq ?_ | with_reducible refine Ops.nil ?_))
      refine W.ordA 99 [(0, 1), (1, 1), (2, 1), (3, 1), (4, 1), (5, 1), (6, 1), (7, 1), (8, 1), (9, 2), (10, 1), (11, 2), (12, 2), (13, 1), (14, 1)] rfl (by kernel_rfl) rfl (by kernel_rfl) (fun _ _ _ h => h) ?_
      (repeat (first | refine x_p (kk := ?_) | refine x_n (kk := ?_) | refine x_l (kk := ?_) | refine x_t (kk := ?_)))
      refine OrdA.nil (fun w6 hb6 => ?_)
      have hb06 := Below.via hb05 hb6
      skip
      refine W.condT rfl (by first | rfl | assumption | (simp only [bnf] <;> omega) | (simp only [*, bnf]; done) | fail) ?_
      (repeat (first | with_reducible refine W.seq ?_ | with_reducible refine W.region ?_ | refine z_p (kk := ?_)))
      refine z_ev (EV.slP (q := i) rfl rfl rfl rfl rfl (by omega)) (kk := ?_)
      (repeat (first | with_reducible refine Ops.nil ?_ | refine z_p (kk := ?_)))
      refine W.fretP rfl ⟨dropO b i, by rw [heq, hd]; rfl, ⟨_, (hRb.slD (q := i) (by omega)).below hb06, (hAb.drop i).kp (kpF hb06) (fun _ e => e.elim)⟩, hb06⟩
    · have hil2 : i < la.length := by omega
      obtain ⟨a2, aM⟩ := hAa.at_ (i := i) (by omega)
      have ha1 := aM.one
      have htc := top_le hta (i := i) (by omega)
      rw [rest_at (by omega) (by omega)] at heq
      (repeat (first | with_reducible refine W.seq ?_ | with_reducible refine Ops.nil ?_))
      refine W.ordA 99 [(0, 1), (1, 1), (2, 1), (3, 1), (4, 1), (5, 1), (6, 1), (7, 1), (8, 1), (9, 2), (10, 1), (11, 2), (12, 2), (13, 1), (14, 1)] rfl (by kernel_rfl) rfl (by kernel_rfl) (fun _ _ _ h => h) ?_
      (repeat (first | refine x_p (kk := ?_) | refine x_l (kk := ?_)))
      (first | refine x_t (kk := ?_) | refine x_f (kk := ?_))
      (repeat (first | refine x_p (kk := ?_) | refine x_R0 (kk := fun _ _ => ?_) | refine x_f2 (kk := ?_) | refine x_D (kk := ?_)))
      refine OrdA.call rfl rfl rfl rfl rfl rfl rfl (fun w' hw' => Calls.via hw' (compare_c _ (Nat.le_refl _) (aM.below (Below.via hb05 hw')) (bM.below (Below.via hb05 hw')))) ?_
      (repeat (first | refine x_p (kk := ?_)))
      refine OrdA.nil (fun w6 hb6 => ?_)
      have hb06 := Below.via hb05 hb6
      have hb66 : Below w6.heap.size w6 w6 := Below.refl _ _
      have B6 := B5.kp (kpF hb6) (fun e => e)
      have hRa6 := hRa.below hb06
      have hRb6 := hRb.below hb06
      clear hRa5 hRb5 hb55 B5
      by_cases hlt : cmpO (nthE a i) (nthE b i) < 0
      · rw [if_pos hlt] at heq
        skip
        refine W.condT rfl (by first | rfl | (simp; done) | (simp; omega)) ?_
        (repeat (first | with_reducible refine W.seq ?_ | with_reducible refine W.region ?_ | refine z_p (kk := ?_)))
        refine z_ev (EV.slP (q := i) rfl rfl rfl rfl rfl (by omega)) (kk := ?_)
        (repeat (first | with_reducible refine Ops.nil ?_ | refine z_p (kk := ?_)))
        refine W.fretP rfl ⟨dropO b i, by rw [heq], ⟨_, (hRb.slD (q := i) (by omega)).below hb06, (hAb.drop i).kp (kpF hb06) (fun _ e => e.elim)⟩, hb06⟩
      · rw [if_neg hlt] at heq
        refine W.condF rfl (by first | rfl | (simp; done) | (simp; omega)) ?_
        (repeat (first | with_reducible refine W.seq ?_ | with_reducible refine W.skip ?_))
        refine W.ordA 19 [(0, 1), (1, 1), (2, 1), (3, 1), (4, 2), (5, 1), (6, 2), (7, 2), (8, 1), (9, 1), (10, 1), (11, 1), (12, 1), (13, 1), (14, 2), (15, 1), (16, 2), (17, 1), (18, 1), (19, 0)] rfl (by kernel_rfl) rfl (by kernel_rfl) (fun _ _ _ h => h) ?_
        (repeat (first | refine x_p (kk := ?_) | refine x_R0 (kk := fun _ _ => ?_) | refine x_f2 (kk := ?_) | refine x_D (kk := ?_)))
        refine OrdA.call rfl rfl rfl rfl rfl rfl rfl (fun w' hw' => Calls.via hw' (compare_c _ (Nat.le_refl _) (aM.below (Below.via hb06 hw')) (bM.below (Below.via hb06 hw')))) ?_
        by_cases hz : cmpO (nthE a i) (nthE b i) = 0
        · rw [hz] at heq ⊢
          (repeat (first | refine x_p (kk := ?_) | refine x_R1 (kk := fun _ _ => ?_) | refine x_f2 (kk := ?_) | refine x_D (kk := ?_)))
          rw [a2]
          refine OrdA.tail (fun w7 hb67 => ?_)
          have hb07 := Below.via hb06 hb67
          refine VW.Ord.effT rfl (Ops.callP rfl rfl rfl rfl rfl (demand_c _ _ _) (fun r w8 hR => ?_) (fun ch w8 hR => ?_))
          rotate_left
          · obtain ⟨hb, rfl, rfl⟩ := hR
            have h2 := of_decide_eq_false hb
            rw [if_neg (fun h => h2 (by have := h.2; omega))] at heq
            exact ⟨rfl, heq, hb07⟩
          obtain ⟨hb, hw⟩ := hR
          subst w8
          have h2 : nthC a i ≤ nthC b i := by have := of_decide_eq_true hb; omega
          rw [if_pos ⟨rfl, h2⟩] at heq
          clear hb
          refine Ops.nil (W.endl ?_)
          refine VW.Ord.nil ?_
          have hb77 : Below w7.heap.size w7 w7 := Below.refl _ _
          have B7 := B6.kp (kpF hb67) (fun e => e)
          have hRa7 := hRa.below hb07
          have hRb7 := hRb.below hb07
          clear hRa6 hRb6 hb66 B6
          (repeat (first | with_reducible refine W.seq ?_))
          refine W.ordA 99 [(0, 1), (1, 1), (2, 1), (3, 1), (4, 2), (5, 1), (6, 2), (7, 1)] rfl (by kernel_rfl) rfl (by kernel_rfl) (fun _ _ _ h => h) ?_
          (repeat (first | refine x_p (kk := ?_) | refine x_R1 (kk := fun _ _ => ?_) | refine x_f2 (kk := ?_) | refine x_D (kk := ?_)))
          rw [a2]
          refine OrdA.nil (fun w8 hb78 => ?_)
          have hb08 := Below.via hb07 hb78
          have hb88 : Below w8.heap.size w8 w8 := Below.refl _ _
          have B8 := B7.kp (kpF hb78) (fun e => e)
          have hRa8 := hRa.below hb08
          have hRb8 := hRb.below hb08
          clear hRa7 hRb7 hb77 B7
          by_cases hlt2 : nthC a i < nthC b i
          · rw [if_pos hlt2] at heq
            refine W.condT rfl (by first | (simp; done) | (simp; omega)) ?_
            (repeat (first | with_reducible refine W.seq ?_))
            refine W.ordA 11 [(0, 1), (1, 2), (2, 1), (3, 2), (4, 1), (5, 1), (6, 1), (7, 1), (8, 2), (9, 1), (10, 1), (12, 1), (13, 1), (14, 1), (15, 1), (11, 0), (16, 0), (17, 1)] rfl (by kernel_rfl) rfl (by kernel_rfl) (fun _ _ _ h => h) ?_
            (repeat (first | refine x_p (kk := ?_) | refine x_a (kk := ?_) | refine x_R1 (kk := fun _ _ => ?_) | refine x_f2 (kk := ?_) | refine x_D (kk := ?_)))
            rw [a2]
            skip
            rw [show ((nthC b i : Nat) : Int) - ((nthC a i : Nat) : Int) = ((nthC b i - nthC a i : Nat) : Int) by omega]
            refine x_ev rfl (fun _ => EV.bld2 rfl rfl rfl rfl rfl hb1 rfl) (kk := ?_)
            (repeat (first | refine x_p (kk := ?_) | refine x_a (kk := ?_)))
            rw [show (i : Int) + 1 = ((i + 1 : Nat) : Int) by omega]
            refine x_ev rfl (fun _ => EV.slP (q := i + 1) rfl rfl rfl rfl rfl (by omega)) (kk := ?_)
            refine OrdA.tail (fun w9 hb9 => ?_)
            have hb09 := Below.via hb08 hb9
            refine VW.Ord.effT rfl (Ops.bsG (cs := #[vb, .int .i64 ((nthC b i - nthC a i : Nat) : Int)]) (vs := [(0, .agg #[vb, .int .i64 ((nthC b i - nthC a i : Nat) : Int)])]) rfl rfl rfl rfl rfl rfl rfl rfl rfl (by simp [Instr.fill, Value.cells, show Array.range 2 = #[0, 1] from rfl]) (fun w10 r10 hM10 => Ops.nil (W.endl ?_)))
            have hb010 := Below.via hb09 (Mk.bel hM10)
            have e10 := hM10.r_eq
            have s9 := hb09.size
            have hO10 : OP 119 pA pB w9 w10 (.slice (some ⟨r10, 0, none⟩) 1 1) [(vb, nthC b i - nthC a i)] := ⟨Mk.bel hM10, own_lit2 hM10, fun k hk => by have := own_r hk; omega⟩
            have hRd := (hRb.slD (q := i + 1) (by omega)).below hb010
            have hAd := hAb.drop (i + 1)
            have hdl := hAd.len
            have hdl2 : (lb.drop (i + 1)).length = lb.length - (i + 1) := List.length_drop
            refine VW.Ord.effT rfl (Ops.appP rfl rfl rfl rfl rfl rfl rfl rfl rfl hO10 hRd (OA_one hAd) (by rw [List.length_singleton]; omega) (fun v11 w11 hO11 k11 hn11 => Ops.nil (W.endl ?_)))
            have hb911 : Below w9.heap.size w9 w11 := hO11.bel
            have hb011 := Below.via hb09 hb911
            have hP11 : PO w.heap.size w11 v11 ((vb, nthC b i - nthC a i) :: lb.drop (i + 1)) := ⟨hb011.size, tr_bel hb011.size, hO11.own, fun k hk => by
              have := hO11.ge k hk
              rw [tr_size hb011.size]
              omega⟩
            have hOA : OA S' w11 (.cons (nthE b i) (nthC b i - nthC a i) (dropO b (i + 1))) ((vb, nthC b i - nthC a i) :: lb.drop (i + 1)) := by
              obtain ⟨le, h1, h2⟩ := bM.below hb011
              exact ⟨vb, _, le, rfl, h1, h2, hAd.kp (kpF hb011) (fun _ e => e.elim)⟩
            (repeat (first | refine y_p (kk := ?_)))
            refine VW.Ord.nil ?_
            skip
            exact W.fretP rfl ⟨_, heq, po_OM hP11 hS hOA (by simp only [lenO]; omega), hb011⟩
          · rw [if_neg hlt2] at heq
            refine W.condF rfl (by first | (simp; done) | (simp; omega)) ?_
            (repeat (first | with_reducible refine Ops.nil ?_ | with_reducible refine W.region ?_ | refine z_p (kk := ?_) | refine z_a (kk := ?_) | with_reducible refine W.skip ?_ | with_reducible refine W.endb ?_))
            exact W.endl ⟨_, _, ⟨⟨i + 1, rfl, by omega, by omega, rfl, hb08, heq⟩, by omega⟩, (by repeat (first | exact trivial | refine And.intro rfl ?_))⟩
        · rw [if_neg (fun h => hz h.1)] at heq
          have hz' : (cmpO (nthE a i) (nthE b i) == 0) = false := by simp [hz]
          (repeat (first | refine x_p (kk := ?_)))
          (first | refine x_t (kk := ?_) | refine x_f (kk := ?_))
          (repeat (first | refine x_p (kk := ?_) | refine x_n (kk := ?_)))
          refine OrdA.tail (fun w7 hb67 => ?_)
          have hb07 := Below.via hb06 hb67
          refine VW.Ord.effT rfl (Ops.callP rfl rfl rfl rfl rfl (demand_c _ _ _) (fun r w8 hR => ?_) (fun ch w8 hR => ?_))
          · exact absurd hR.1 (by simp)
          obtain ⟨hb, rfl, rfl⟩ := hR
          exact ⟨rfl, heq, hb07⟩
  · have hil' : i = lb.length := by omega
    subst hil'
    rw [hlb, dropO_len, ← hlb] at heq
    (repeat (first | with_reducible refine W.seq ?_ | with_reducible refine Ops.nil ?_ | with_reducible refine W.region ?_ | refine z_p (kk := ?_)))
    refine W.condF rfl (by first | rfl | assumption | (simp only [bnf] <;> omega) | (simp only [*, bnf]; done) | fail) ?_
    (repeat (first | with_reducible refine W.seq ?_ | with_reducible refine W.region ?_ | refine z_p (kk := ?_) | refine W.exit rfl ?_ | refine z_l (kk := ?_)))
    by_cases hab : la.length = lb.length
    · have hd : dropO a lb.length = .nil := by rw [← hab, hla]; exact dropO_len a
      rw [hd] at heq
      refine Ops.callP rfl rfl rfl rfl rfl (demand_c _ _ _) (fun r w5 hR => ?_) (fun ch w5 hR => ?_)
      rotate_left
      · obtain ⟨hb, rfl, rfl⟩ := hR
        exact absurd hb (by simp [hab])
      obtain ⟨hb, hw⟩ := hR
      subst w5
      (repeat (first | with_reducible refine W.seq ?_ | with_reducible refine Ops.nil ?_ | with_reducible refine W.region ?_ | refine z_p (kk := ?_)))
      exact W.fretP rfl ⟨.nil, heq, OM.nil, hb03⟩
    · have hd := dropO_cons (o := a) (i := lb.length) (by omega)
      rw [hd] at heq
      refine Ops.callP rfl rfl rfl rfl rfl (demand_c _ _ _) (fun r w5 hR => ?_) (fun ch w5 hR => ?_)
      · obtain ⟨hb, hw⟩ := hR
        exact absurd hb (by simp; omega)
      obtain ⟨hb, rfl, rfl⟩ := hR
      exact ⟨rfl, heq, hb03⟩
def restF (a b : Od) : Except Int Od := match restO a b with
  | some o => .ok o
  | none => .error 6
theorem rest_small : ∀ {a b o : Od}, restO a b = some o → szO o ≤ szO b ∧ mostO o ≤ mostO b
  | .nil, b, o, h => by
    simp only [restO, Option.some.injEq] at h
    subst h
    exact ⟨Nat.le_refl _, Nat.le_refl _⟩
  | .cons _ _ _, .nil, o, h => by simp [restO] at h
  | .cons ae ac ar, .cons be bc br, o, h => by
    simp only [restO] at h
    split at h
    · simp only [Option.some.injEq] at h
      subst h
      exact ⟨Nat.le_refl _, Nat.le_refl _⟩
    · split at h
      · split at h
        · simp only [Option.some.injEq] at h
          subst h
          simp only [szO, mostO]
          omega
        · have := rest_small h
          simp only [szO, mostO]
          omega
      · cases h
theorem rest_fun : FunO 97 restF := ⟨rfl, fun {S' w va vb a b} hS hA hB na nb sa sb za zb => by
  have h1 := small_most sa
  have h2 := small_most sb
  have h3 := most_top a
  have h4 := most_top b
  refine (rest_c hS hA hB (by omega) (by omega) (by omega) (by omega)).mono fun e w' h => ?_
  rcases h with ⟨v, he, o, h5, h6, h7⟩ | ⟨ch, he, h5, h6, h7⟩
  · have := rest_small h5
    exact .inl ⟨v, he, o, by unfold restF; rw [h5], h6, h7, by omega, by omega⟩
  · exact .inr ⟨ch, he, 6, h5, by unfold restF; rw [h6], h7⟩⟩
theorem Rest_c {w : World} {s t : List UInt8} (hs : s.length ≤ 4294967295) (ht : t.length ≤ 4294967295) (hT : Tbl w) :
    Calls Tryz.prog 51 #[S s, S t] w (Ret fun r w' => r = .tuple #[S (outS (bothR restF s t)), .int .i64 (outE (bothR restF s t))] ∧ Below w.heap.size w w') := by
  refine calls_W (vs := [_, _]) Tryz.func51 rfl (by kernel_rfl) rfl ?_
  (repeat (first | with_reducible refine W.seq ?_ | with_reducible refine Ops.nil ?_ | with_reducible refine W.region ?_ | refine z_p (kk := ?_)))
  refine Ops.call rfl rfl rfl rfl rfl (both_c rest_fun hs ht hT) (fun r w1 hR => ?_)
  obtain ⟨rfl, hb1⟩ := hR
  (repeat (first | with_reducible refine Ops.nil ?_ | refine z_p (kk := ?_)))
  exact W.fret rfl ⟨rfl, hb1⟩
end Go.Proofs.YtcmjlmnfdncajaaGreatDoor
namespace Go.Proofs.YtcmjlmnfdncajaaGreatDoor.VW
open Go Go.RowKit
section
variable {α : Type} [Inhabited α]
theorem fp2_set1 {fa fb : α → Value} {u : α} : ∀ (os : List α) (i : Nat), i < os.length → fa u = fa (os.getD i default) → (fp2 fa fb os).set (i * 2 + 1) (fb u) = fp2 fa fb (os.set i u)
  | [], i, h, _ => by simp at h
  | z :: r, 0, _, h => by
    have h' : fa u = fa z := h
    simp [fp2, h']
  | z :: r, i + 1, h, h' => by
    have := fp2_set1 (fa := fa) (fb := fb) (u := u) r i (by simpa using h) (by simpa using h')
    rw [show (i + 1) * 2 + 1 = i * 2 + 1 + 1 + 1 by omega]
    simp only [fp2, List.set_cons_succ, this]
variable {P : Program} [hT : Tab P] {n : Nat} {ds : List Deferred} {Φ : Post} {k : List It} {ρ : E} {w : World} {all : Array Oper} {l : List Oper}
/-- The second cell of an element is written. -/
theorem Ops.stP1 {fa fb : α → Value} {w0 : World} {o2 : Oper} {t' e : Nat} {x z : Operand} {v : Value} {u : α} {i : Nat} {os : List α} {g m c : Nat}
    (ho2 : o2.op = .store t' x z) (hd2 : o2.dst = none) (hg2 : o2.guard = none) (hs' : tyS P t' = some 1) (hv : v = .slice (some ⟨g, 0, none⟩) m c) (hx : ev ρ x = some (.pointer (some ⟨g, i * 2 + 1, none⟩))) (hz : ev ρ z = some (fb u)) (h1b : (fb u).oneCell' = true) (hfa : fa u = fa (os.getD i default))
    (hO : OP e fa fb w0 w v os) (h1 : i < os.length)
    (hk : ∀ w', OP e fa fb w0 w' v (os.set i u) → Kp (fun b => v.ownBlock = some b) w w' → w'.heap.size = w.heap.size → Ops none P n ds all k Φ l ρ w') : Ops none P n ds all k Φ (o2 :: l) ρ w := by
  subst hv
  have hown := hO.own
  rcases hown.2 with ⟨h2, _⟩ | ⟨g, cap, cur, h2, _, hg, hnc, hx2, hcs, ht'⟩
  · cases h2
  · cases h2
    obtain ⟨s2, g2⟩ := hown.stored (i * 2 + 1) (fb u)
    rw [fp2_set1 _ _ h1 hfa] at s2
    obtain ⟨a1, a2⟩ := fp2_get (fa := fa) (fb := fb) os i h1
    have c2 := hown.cells (g := g) rfl _ _ a2
    rw [add_lit, Nat.zero_add] at c2
    have f1 : w.frozen? ⟨g, i * 2 + 1, none⟩ = false := by simp [World.frozen?, hg]
    have r2 := run_store (P := P) h1b c2 f1
    have kk := Kp.of_grown g2
    have kS : Kp (fun b => (Value.slice (some ⟨g, 0, none⟩) os.length c).ownBlock = some b) w (w.setCell ⟨g, i * 2 + 1, none⟩ (fb u)) := kk.mono (fun b _ e => by simp at e; simp [Value.ownBlock, e])
    have hcs2 : (fb u).cells = #[fb u] := by cases h : fb u <;> simp_all [Value.oneCell', Value.cells]
    refine Ops.unit hg2 hd2 (fun a hr => ?_) (hk _ ⟨Below.put hO.bel kS (fun i hi => hO.ge i hi), by simpa using s2, hO.ge⟩ kS (by simp))
    simp only [execOp, ho2, hr.ev hx, hr.ev hz]
    simp [Instr.storeAt, Instr.sureAddr, storeVar, run_sizeOf hs', hcs2, storeCells, add_lit, r2]
end
end Go.Proofs.YtcmjlmnfdncajaaGreatDoor.VW
namespace Go.Proofs.YtcmjlmnfdncajaaGreatDoor
open Go Go.RowKit Go.Proofs.YtcmjlmnfdncajaaGreatDoor.VW Go.Proofs.YtcmjlmnfdncajaaGreatDoor.TW
attribute [local irreducible] W Ops OrdA VW.Ord OrdX Wi OpsI OrdF
theorem om_lit2 {S' : Nat → Prop} {w w1 : World} {r c : Nat} {va : Value} {a : Od} (hS : ∀ i, S' i → i < w.heap.size) (hA : OM S' w va a) (hM : Mk w w1 r (.cells #[va, .int .i64 (c : Int)] 119)) : OM S' w1 (.slice (some ⟨r, 0, none⟩) 1 1) (.cons a c .nil) := by
  have e1 := hM.r_eq
  have B1 : Blk w1 r #[va, .int .i64 (c : Int)] 119 := hM.at_
  refine ⟨[(va, c)], ⟨_, _, rfl, ⟨Nat.le_refl _, by simp⟩, fun _ => ⟨_, rfl, fun h => by have := hS _ h; simp only at this; omega, fun j hj => ?_⟩⟩, ?_⟩
  · simp at hj
    subst hj
    exact ⟨B1.cell rfl, B1.cell rfl⟩
  · obtain ⟨le, h1, h2⟩ := hA
    exact ⟨va, [], le, rfl, h1.below (Mk.bel hM), h2.kp (kpF (Mk.bel hM)) (fun _ e => e.elim), rfl⟩
set_option maxHeartbeats 8000000 in
theorem product_c {S' : Nat → Prop} {w : World} {va vb : Value} {a b : Od} (hS : ∀ i, S' i → i < w.heap.size) (hA : OM S' w va a) (hB : OM S' w vb b) (ka : okS a) (kb : okS b) :
    Calls Tryz.prog 80 #[va, vb] w (RetP (fun r w' => ∃ o, prodC a b = some o ∧ OM S' w' r o ∧ Below w.heap.size w w') (fun ch w' => ch = trb 5 ∧ prodC a b = none ∧ Below w.heap.size w w')) := by
  obtain ⟨la, hRa, hAa⟩ := hA
  obtain ⟨lb, hRb, hAb⟩ := hB
  have hla := hAa.len
  have hlb := hAb.len
  have hza' := len_le_sz a
  have hzb' := len_le_sz b
  have hta := most_top a
  have htb := most_top b
  obtain ⟨ka1, ka2⟩ := ka
  obtain ⟨kb1, kb2⟩ := kb
  obtain ⟨Aa, ca, rfl⟩ := hRa.sh
  obtain ⟨Ab, cb, rfl⟩ := hRb.sh
  refine calls_WP (vs := [_, _]) Tryz.func80 rfl (by kernel_rfl) rfl ?_
  (repeat (first | with_reducible refine W.seq ?_ | with_reducible refine Ops.nil ?_ | with_reducible refine W.region ?_ | refine z_p (kk := ?_) | refine z_l (kk := ?_)))
  by_cases h0 : la.length = 0
  · refine W.condT rfl (by first | rfl | assumption | (simp only [bnf] <;> omega) | (simp only [*, bnf]; done) | fail) ?_
    (repeat (first | with_reducible refine W.seq ?_ | with_reducible refine Ops.nil ?_ | with_reducible refine W.region ?_ | refine z_p (kk := ?_)))
    exact W.fretP rfl ⟨.nil, by rw [OA_nil hAa h0]; rfl, OM.nil, Below.refl _ _⟩
  · obtain ⟨ae, ac, ar, ve, la2, rfl, rfl, hEa, hAr⟩ := OA_cons hAa (by omega)
    have ha1 := hEa.one
    have hl1 : ((ve, ac) :: la2).length = la2.length + 1 := rfl
    simp only [mostO, szO, topO] at ka1 ka2 hta
    have hll : la2.length ≤ 60 := by simp only [szO] at hza'; omega
    refine W.condF rfl (by first | rfl | assumption | (simp only [bnf] <;> omega) | (simp only [*, bnf]; done) | fail) ?_
    (repeat (first | with_reducible refine W.seq ?_ | with_reducible refine Ops.nil ?_ | with_reducible refine W.region ?_ | refine z_p (kk := ?_) | with_reducible refine W.skip ?_ | with_reducible refine W.block ?_ | refine z_l (kk := ?_)))
    refine W.loop (fun m ρ w3 => ∃ (i : Nat) (acc : Od) (ov : Value), m = lb.length - i ∧ i ≤ lb.length ∧ ρ = [(0, .slice Aa (la2.length + 1) ca), (5, ov), (12, .slice Ab lb.length cb), (13, .int .i64 lb.length), (14, .int .i64 i)] ∧ Below w.heap.size w w3 ∧ OM S' w3 ov acc ∧ prodC (.cons ae ac ar) b = prodL ae ac ar acc (dropO b i) ∧ szO acc ≤ 60 ∧ topO acc ≤ 1000)
      ⟨_, _, ⟨0, .nil, _, rfl, Nat.zero_le _, rfl, Below.refl _ _, OM.nil, by rw [dropO_zero]; rfl, by simp [szO], by simp [topO]⟩, (by repeat (first | exact trivial | refine And.intro rfl ?_))⟩ ?_
    rintro m ρ w3 ⟨i, acc, ov, rfl, hi, rfl, hb03, hO, heq, hz3, ht3⟩
    have hb33 : Below w3.heap.size w3 w3 := Below.refl _ _
    have hs3 := hb03.size
    by_cases hil : i < lb.length
    · obtain ⟨b2, bM⟩ := hAb.at_ (i := i) (by omega)
      have hb1 := bM.one
      have hnm := nth_most (o := b) (i := i) (by omega)
      have hns := nthE_sz (o := b) (i := i) (by omega)
      rw [dropO_cons (by omega), prodL] at heq
      generalize hvb : (lb.getD i default).1 = vb at *
      (repeat (first | with_reducible refine W.seq ?_ | with_reducible refine Ops.nil ?_ | with_reducible refine W.region ?_ | refine z_p (kk := ?_)))
      refine W.condT rfl (by first | rfl | assumption | (simp only [bnf] <;> omega) | (simp only [*, bnf]; done) | fail) ?_
      (repeat (first | with_reducible refine W.seq ?_ | with_reducible refine W.region ?_ | with_reducible refine W.skip ?_ | with_reducible refine W.block ?_ | refine z_R2 (kk := fun _ => ?_)))
      rw [hvb, b2]
      refine Ops.alloc rfl rfl rfl rfl (fun w4 b6 hM4 => ?_)
      skip
      refine Ops.stN (vs := [vb, .int .i64 (nthC b i : Nat)]) (cs := [.slice none 0 0, .int .i64 0]) rfl rfl rfl rfl rfl rfl (by intro v hv; simp at hv; rcases hv with rfl | rfl; exact hb1; rfl) rfl hM4.at_ (fun w5 hu5 => ?_)
      have B5 : Blk w5 b6 #[vb, .int .i64 (nthC b i : Nat)] 119 := hu5.blk
      have e4 := hM4.r_eq
      have hb35 : Below w3.heap.size w3 w5 := Below.put (Mk.bel hM4) hu5.kp (fun k e => by omega)
      have hb05 := Below.via hb03 hb35
      have hb55 : Below w5.heap.size w5 w5 := Below.refl _ _
      have hs5 := hb05.size
      clear hb33 hM4 hu5
      (repeat (first | with_reducible refine W.seq ?_ | with_reducible refine Ops.nil ?_ | with_reducible refine W.region ?_ | refine z_f (kk := ?_) | refine z_d (kk := ?_)))
      obtain ⟨le, hRe, hAe⟩ := id bM
      obtain ⟨Ae, ce, hve⟩ := hRe.sh
      rw [hve]
      (repeat (first | with_reducible refine Ops.nil ?_ | refine z_p (kk := ?_) | refine z_l (kk := ?_)))
      by_cases he0 : le.length = 0
      · have hbe := OA_nil hAe he0
        rw [hbe] at heq
        have hst : stL ae ac ar acc .nil (nthC b i) = (chk (.cons ae (ac * nthC b i) ar)).bind (addC acc) := rfl
        rw [hst] at heq
        have hmul : ac * nthC b i ≤ 1000 * 1000 := Nat.mul_le_mul (by omega) (by omega)
        refine W.condT rfl (by first | rfl | assumption | (simp only [bnf] <;> omega) | (simp only [*, bnf]; done) | fail) ?_
        (repeat (first | with_reducible refine W.seq ?_ | with_reducible refine W.region ?_ | refine z_p (kk := ?_)))
        refine Ops.call rfl rfl rfl rfl rfl (clone_c (hRa.below hb05) (OA_one hAa) (by omega)) (fun v8 w6 hR => ?_)
        obtain ⟨hP6, hb56⟩ := hR
        have hb06 := Below.via hb05 hb56
        have B6 := B5.kp (kpF hb56) (fun e => e)
        have hb66 : Below w6.heap.size w6 w6 := Below.refl _ _
        obtain ⟨g8, c8, hv8, hc8⟩ := hP6.2.at_ (by omega)
        have hge8 : ∀ k, v8.ownBlock = some k → w5.heap.size ≤ k := po_ge hP6
        have hR8 : R2 S' w6 v8 ((ve, ac) :: la2) := po_R2 hP6 (by omega) (fun j hj h => by have := hge8 j hj; have := hS j h; omega)
        subst hv8
        (repeat (first | with_reducible refine W.seq ?_ | with_reducible refine Ops.nil ?_ | refine z_p (kk := ?_)))
        refine W.ordA 9 [(0, 1), (1, 1), (2, 1), (3, 2), (4, 1), (5, 2), (6, 1), (7, 1), (8, 1), (9, 0)] rfl (by kernel_rfl) rfl (by kernel_rfl) (fun _ _ _ h => h) ?_
        (repeat (first | refine x_p (kk := ?_)))
        refine x_R1 (i := 0) (hR := hR8) (hF := fun _ h => h) (hi := by omega) (kk := fun p q => ?_)
        rw [show (((ve, ac) :: la2).getD 0 default).2 = ac from rfl]
        refine x_f2 (kk := ?_)
        refine x_D (kk := ?_)
        refine x_ev rfl (fun _ => EV.mulN rfl rfl rfl (by omega)) (kk := ?_)
        refine x_ev rfl (fun _ => EV.idx rfl rfl rfl rfl rfl (by omega) (by omega)) (kk := ?_)
        refine x_ev rfl (fun _ => EV.fld rfl rfl rfl) (kk := ?_)
        refine OrdA.tail (fun w9 hb69 => ?_)
        have hb09 := Below.via hb06 hb69
        have hP9 := po_kp hP6 (kpF hb69) (fun _ _ e => e)
        refine VW.Ord.effT rfl (Ops.stP1 (i := 0) (u := (ve, ac * nthC b i)) rfl rfl rfl rfl rfl rfl rfl rfl rfl hP9.2 (by omega) (fun w10 hO10 k10 hsz10 => Ops.nil (W.endl ?_)))
        have hP10 := po_put hP9 (tr_size hP9.1) hO10 (by omega)
        rw [show ((ve, ac) :: la2).set 0 (ve, ac * nthC b i) = (ve, ac * nthC b i) :: la2 from rfl] at hP10
        have hb10 : Below w.heap.size w w10 := Below.put hb09 k10 (fun j hj => by have := hge8 j hj; omega)
        have hM10 : OM S' w10 (.slice (some ⟨g8, 0, none⟩) ((ve, ac) :: la2).length c8) (.cons ae (ac * nthC b i) ar) := by
          refine ⟨(ve, ac * nthC b i) :: la2, po_R2 hP10 (by simp; omega) (fun j hj h => by have := hge8 j hj; have := hS j h; omega), ?_⟩
          obtain ⟨le', h1, h2⟩ := hEa.below hb10
          exact ⟨ve, la2, le', rfl, h1, h2, hAr.kp (kpF hb10) (fun _ e => e.elim)⟩
        have hO2 : OM (fun j => S' j ∨ w3.heap.size ≤ j) w3 ov acc := hO.more (fun j hj => hj)
        have hO3 := (hO2.below (Below.via hb35 (Below.via hb56 hb69))).kp k10 (fun j hj => .inr (by have := hge8 j hj; have := hb35.size; omega))
        have hO11 : OM S' w10 ov acc := hO3.more (fun j hj => .inl (.inl hj))
        refine VW.Ord.nil ?_
        (repeat (first | with_reducible refine W.seq ?_ | with_reducible refine W.region ?_ | refine z_p (kk := ?_)))
        refine Ops.callP rfl rfl rfl rfl rfl (checked_c hM10 (by simp only [szO]; omega)) (fun r w11 hR => ?_) (fun ch w11 hR => ?_)
        rotate_left
        · obtain ⟨rfl, hbig, hb11⟩ := hR
          exact ⟨rfl, by rw [heq]; unfold TW.chk; rw [if_pos hbig]; rfl, Below.via hb10 hb11⟩
        obtain ⟨rfl, hbig, hb11⟩ := hR
        have hb011 := Below.via hb10 hb11
        have hs11 := hb011.size
        rw [show TW.chk (.cons ae (ac * nthC b i) ar) = some (.cons ae (ac * nthC b i) ar) by unfold TW.chk; rw [hbig]; rfl, Option.bind_some] at heq
        refine Ops.callP rfl rfl rfl rfl rfl (sum_c (S' := S') (fun j hj => by have := hS j hj; omega) (hO11.below hb11) (hM10.below hb11) (by omega) (by simp only [szO]; omega) (by omega) (by simp only [topO]; omega)) (fun r w12 hR => ?_) (fun ch w12 hR => ?_)
        rotate_left
        · obtain ⟨rfl, hno, hb12⟩ := hR
          exact ⟨rfl, by rw [heq, hno], Below.via hb011 hb12⟩
        obtain ⟨o, ho, hM12, hb12⟩ := hR
        rw [ho] at heq
        rw [addC_cons] at ho
        unfold TW.chk at ho
        split at ho
        · cases ho
        rename_i hnb
        simp only [Option.some.injEq] at ho
        rw [ho] at hnb
        have hnb' : ¬ (1000 < topO o ∨ 60 < szO o) := fun q => hnb (decide_eq_true q)
        (repeat (first | with_reducible refine Ops.nil ?_ | with_reducible refine W.region ?_ | refine z_p (kk := ?_) | refine z_a (kk := ?_) | refine W.exit rfl ?_))
        exact W.endl ⟨_, _, ⟨⟨i + 1, o, r, rfl, by omega, rfl, Below.via hb011 hb12, hM12, heq, by omega, by omega⟩, by omega⟩, (by repeat (first | exact trivial | refine And.intro rfl ?_))⟩
      · have hne : nthE b i ≠ .nil := fun e => he0 (by rw [hAe.len, e]; rfl)
        have hst : stL ae ac ar acc (nthE b i) (nthC b i) = (addC ae (nthE b i)).bind fun e => addC acc (.cons e (nthC b i) .nil) := by
          cases hx : nthE b i with
          | nil => exact absurd hx hne
          | cons _ _ _ => rfl
        rw [hst] at heq
        have hRa5 := hRa.below hb05
        have hmo1 := most_top ae
        have hmo2 := most_top (nthE b i)
        refine W.condF rfl (by simpa using he0) ?_
        (repeat (first | with_reducible refine W.skip ?_))
        obtain ⟨p0, c0, hpe, q1, q2⟩ := at2 hRa5 (i := 0) (by omega)
        simp only [Value.slice.injEq] at hpe
        obtain ⟨rfl, _, rfl⟩ := hpe
        rw [show (((ve, ac) :: la2).getD 0 default).1 = ve from rfl] at q1
        refine W.ordF (fun w' => Below w5.heap.size w5 w') [0, 1, 2, 3, 4, 5, 6, 8, 9, 7, 10, 11, 12, 13] rfl (by kernel_rfl) rfl (fun _ _ _ h => h) (fun w6 k6 _ => ⟨k6.below (Nat.le_refl _) (fun _ _ e => e), ?_⟩)
        have hb56 : Below w5.heap.size w5 w6 := k6.below (Nat.le_refl _) (fun _ _ e => e)
        have hb06 := Below.via hb05 hb56
        have hs6 := hb06.size
        refine OrdF.take (by kernel_rfl) rfl rfl rfl rfl (fun w hF => EV.pu rfl) ?_
        refine OrdF.take (by kernel_rfl) rfl rfl rfl rfl (fun w hF => EV.pu rfl) ?_
        refine OrdF.take (by kernel_rfl) rfl rfl rfl rfl (fun w hF => EV.idx rfl rfl rfl rfl rfl (by omega) (by omega)) ?_
        refine OrdF.take (by kernel_rfl) rfl rfl rfl rfl (fun w hF => EV.fld rfl rfl rfl) ?_
        refine OrdF.take (by kernel_rfl) rfl rfl rfl rfl (fun w hF => EV.ld rfl rfl rfl (v := ve) ?_) ?_
        · rw [show ∀ p : Addr, p.add 0 = p from fun p => by simp [Addr.add]]
          exact cell_kp (kpF hF) q1 (fun e => e)
        refine OrdF.take (by kernel_rfl) rfl rfl rfl rfl (fun w hF => EV.fld rfl rfl rfl) ?_
        refine OrdF.take (by kernel_rfl) rfl rfl rfl rfl (fun w hF => EV.ld rfl rfl rfl (v := vb) ?_) ?_
        · exact Blk.cell (B5.kp (kpF hF) (fun e => e)) rfl
        refine OrdF.take (by kernel_rfl) rfl rfl rfl rfl (fun w hF => EV.fld rfl rfl rfl) ?_
        refine OrdF.take (by kernel_rfl) rfl rfl rfl rfl (fun w hF => EV.ld rfl rfl rfl (v := .int .i64 ((nthC b i : Nat) : Int)) ?_) ?_
        · exact Blk.cell (B5.kp (kpF hF) (fun e => e)) rfl
        refine OrdF.one 7 (by kernel_rfl) rfl (Ops.callP rfl rfl rfl rfl rfl (sum_c (S' := S') (fun j hj => by have := hS j hj; omega) (hEa.below hb06) (bM.below hb06) (by omega) (by omega) (by omega) (by omega)) (fun r w7 hR => ?_) (fun ch w7 hR => ?_))
        rotate_left
        · obtain ⟨rfl, hno, hb7⟩ := hR
          exact ⟨rfl, by rw [heq, hno]; rfl, Below.via hb06 hb7⟩
        obtain ⟨o, ho, hM7, hb67⟩ := hR
        rw [ho, Option.bind_some] at heq
        have hb57 := Below.via hb56 hb67
        have hb07 := Below.via hb05 hb57
        have hs7 := hb07.size
        have ho1 := hM7.one
        refine Ops.nil (W.endl ⟨hb57, ?_⟩)
        refine OrdF.take (by kernel_rfl) rfl rfl rfl rfl (fun w hF => EV.bld2 rfl rfl rfl rfl rfl ho1 rfl) ?_
        refine OrdF.one 11 (by kernel_rfl) rfl (Ops.bsG (cs := #[r, .int .i64 ((nthC b i : Nat) : Int)]) (vs := [(0, .agg #[r, .int .i64 ((nthC b i : Nat) : Int)])]) rfl rfl rfl rfl rfl rfl rfl rfl rfl (by simp [Instr.fill, Value.cells, show Array.range 2 = #[0, 1] from rfl]) (fun w8 r8 hM8 => ?_))
        have hb78 := Mk.bel hM8
        have hb58 := Below.via hb57 hb78
        have hb08 := Below.via hb05 hb58
        have hs8 := hb08.size
        have hL := om_lit2 (S' := S') (fun j hj => by have := hS j hj; omega) hM7 hM8
        refine Ops.nil (W.endl ⟨hb58, ?_⟩)
        have hoz : szO o ≤ 200 ∧ topO o ≤ 1000000 := by
          have hz2 : ∃ be bc br, nthE b i = .cons be bc br := by
            cases hx : nthE b i with
            | nil => exact absurd hx hne
            | cons be bc br => exact ⟨be, bc, br, rfl⟩
          obtain ⟨be, bc, br, hx⟩ := hz2
          rw [hx, addC_cons] at ho
          unfold TW.chk at ho
          split at ho
          · cases ho
          · rename_i hnb
            simp only [Option.some.injEq] at ho
            rw [ho] at hnb
            have hnb' : ¬ (1000 < topO o ∨ 60 < szO o) := fun q => hnb (decide_eq_true q)
            omega
        refine OrdF.one 12 (by kernel_rfl) rfl (Ops.callP rfl rfl rfl rfl rfl (sum_c (S' := S') (fun j hj => by have := hS j hj; omega) (hO.below (Below.via hb35 hb58)) hL (by omega) (by simp only [szO]; omega) (by omega) (by simp only [topO]; omega)) (fun r9 w9 hR => ?_) (fun ch w9 hR => ?_))
        rotate_left
        · obtain ⟨rfl, hno, hb9⟩ := hR
          exact ⟨rfl, by rw [heq, hno], Below.via hb08 hb9⟩
        obtain ⟨o2, ho2, hM9, hb89⟩ := hR
        have hb59 := Below.via hb58 hb89
        have hb09 := Below.via hb05 hb59
        rw [ho2] at heq
        rw [addC_cons] at ho2
        unfold TW.chk at ho2
        split at ho2
        · cases ho2
        rename_i hnb
        simp only [Option.some.injEq] at ho2
        rw [ho2] at hnb
        have hnb' : ¬ (1000 < topO o2 ∨ 60 < szO o2) := fun q => hnb (decide_eq_true q)
        refine Ops.nil (W.endl ⟨hb59, ?_⟩)
        refine OrdF.take (by kernel_rfl) rfl rfl rfl rfl (fun w hF => EV.pu rfl) ?_
        refine OrdF.done (by kernel_rfl) ?_
        (repeat (first | with_reducible refine Ops.nil ?_ | with_reducible refine W.region ?_ | refine z_p (kk := ?_) | refine z_a (kk := ?_) | with_reducible refine W.endb ?_))
        exact W.endl ⟨_, _, ⟨⟨i + 1, o2, r9, rfl, by omega, rfl, hb09, hM9, heq, by omega, by omega⟩, by omega⟩, (by repeat (first | exact trivial | refine And.intro rfl ?_))⟩
    · have hil' : i = lb.length := by omega
      subst hil'
      rw [hlb, dropO_len] at heq
      (repeat (first | with_reducible refine W.seq ?_ | with_reducible refine Ops.nil ?_ | with_reducible refine W.region ?_ | refine z_p (kk := ?_)))
      refine W.condF rfl (by first | rfl | assumption | (simp only [bnf] <;> omega) | (simp only [*, bnf]; done) | fail) ?_
      (repeat (first | with_reducible refine W.seq ?_ | with_reducible refine Ops.nil ?_ | with_reducible refine W.region ?_ | refine z_p (kk := ?_) | refine W.exit rfl ?_))
      exact W.fretP rfl ⟨acc, heq, hO, hb03⟩
def prodF (a b : Od) : Except Int Od := match prodC a b with
  | some o => .ok o
  | none => .error 5
theorem prod_fun : FunO 80 prodF := ⟨rfl, fun {S' w va vb a b} hS hA hB na nb sa sb za zb => by
  have h1 := small_most sa
  have h2 := small_most sb
  refine (product_c hS hA hB ⟨h1, za⟩ ⟨h2, zb⟩).mono fun e w' h => ?_
  rcases h with ⟨v, he, o, h5, h6, h7⟩ | ⟨ch, he, h5, h6, h7⟩
  · have := (prodC_spec na nb ⟨h1, za⟩ ⟨h2, zb⟩ h5).2
    exact .inl ⟨v, he, o, by unfold prodF; rw [h5], h6, h7, by have := this.2; omega, by have := this.1; omega⟩
  · exact .inr ⟨ch, he, 5, h5, by unfold prodF; rw [h6], h7⟩⟩
theorem Product_c {w : World} {s t : List UInt8} (hs : s.length ≤ 4294967295) (ht : t.length ≤ 4294967295) (hT : Tbl w) :
    Calls Tryz.prog 34 #[S s, S t] w (Ret fun r w' => r = .tuple #[S (outS (bothR prodF s t)), .int .i64 (outE (bothR prodF s t))] ∧ Below w.heap.size w w') := by
  refine calls_W (vs := [_, _]) Tryz.func34 rfl (by kernel_rfl) rfl ?_
  (repeat (first | with_reducible refine W.seq ?_ | with_reducible refine Ops.nil ?_ | with_reducible refine W.region ?_ | refine z_p (kk := ?_)))
  refine Ops.call rfl rfl rfl rfl rfl (both_c prod_fun hs ht hT) (fun r w1 hR => ?_)
  obtain ⟨rfl, hb1⟩ := hR
  (repeat (first | with_reducible refine Ops.nil ?_ | refine z_p (kk := ?_)))
  exact W.fret rfl ⟨rfl, hb1⟩
end Go.Proofs.YtcmjlmnfdncajaaGreatDoor
