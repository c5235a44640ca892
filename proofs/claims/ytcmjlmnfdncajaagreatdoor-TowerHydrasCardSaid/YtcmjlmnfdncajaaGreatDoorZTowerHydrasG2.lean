/- A part of the walk: what this seat's statements share. -/
import Derived.Test.YtcmjlmnfdncajaaGreatDoorZTowerHydrasG1
import Derived.Test.YtcmjlmnfdncajaaGreatDoorZG7
import Derived.Test.YtcmjlmnfdncajaaGreatDoorZG8
import Derived.Test.YtcmjlmnfdncajaaGreatDoorZG2
import Derived.Laws.IdiomStrings
import Derived.Test.YtcmjlmnfdncajaaGreatDoorZG10
import Derived.Test.YtcmjlmnfdncajaaGreatDoorZG5
set_option linter.unusedVariables false
set_option linter.unusedSimpArgs false
set_option linter.unusedSectionVars false
namespace Go.Proofs.YtcmjlmnfdncajaaGreatDoor
open Go Go.RowKit Go.Proofs.YtcmjlmnfdncajaaGreatDoor.VW Go.Proofs.YtcmjlmnfdncajaaGreatDoor.TW
attribute [local irreducible] W Ops OrdA VW.Ord OrdX Wi OpsI OrdF
def refChop (f : Fo) (h n : Nat) : Option (List UInt8) := if 1 + szF (chF f h n).1 ≤ 200 then some (txH (chF f h n).1) else none
theorem ap_sz : ∀ (a b : Fo), szF (apF a b) = szF a + szF b
  | .nil, b => by simp [apF, szF]
  | .cons k r, b => by simp only [apF, szF, ap_sz r b]; omega
theorem tx_ap : ∀ (a b : Fo), txF (apF a b) = txF a ++ txF b
  | .nil, b => rfl
  | .cons k r, b => by simp only [apF, txF, tx_ap r b]; simp
theorem rp_len (n : Nat) (w : List UInt8) : (rpL n w).length = n * w.length := by
  induction n with
  | zero => simp [rpL]
  | succ n ih => rw [rpL, List.length_append, ih, Nat.succ_mul]; omega
theorem rp_snoc : ∀ (n : Nat) (w : List UInt8), rpL n w ++ w = rpL (n + 1) w
  | 0, w => by simp [rpL]
  | n + 1, w => by rw [rpL, List.append_assoc, rp_snoc n w]; rfl
/-- What the string is, cut at the head's place and at its parent's. -/
theorem chop_at {f : Fo} {h n : Nat} (hh : h < heF f) : ∃ p, (hpos f 1)[h]? = some p ∧ ∃ (q : Nat) (A k1 k2 : _) (B : List UInt8), A.length = q ∧ txH f = A ++ (40 :: (txF (apF k1 (.cons .nil k2)) ++ 41 :: B)) ∧ p = q + 1 + 2 * szF k1 ∧
    ((q = 0 ∧ txH (chF f h n).1 = A ++ (40 :: (txF (apF k1 k2) ++ 41 :: B)) ∧ B = []) ∨ (0 < q ∧ txH (chF f h n).1 = A ++ (rpL (n + 1) (40 :: (txF (apF k1 k2) ++ [41])) ++ B))) := by
  obtain ⟨p, h1, h2⟩ := chop_str f h n [40] [41] hh
  refine ⟨p, h1, ?_⟩
  rcases h2 with ⟨g1, f1, f2, g2, g3, g4⟩ | ⟨g1, A', k1, k2, B', g2, g3, g4, g5⟩
  · refine ⟨0, [], f1, f2, [], rfl, ?_, by simpa using g4, .inl ⟨rfl, ?_, rfl⟩⟩
    · rw [← g2]; rfl
    · rw [g3]; rfl
  · exact ⟨A'.length, A', k1, k2, B', rfl, by rw [← g2]; rfl, g3, .inr ⟨(by have h4 : [40].length ≤ A'.length := g4; simp only [List.length_cons, List.length_nil] at h4; omega), by rw [← g5]; rfl⟩⟩
set_option maxRecDepth 20000 in
set_option maxHeartbeats 8000000 in
theorem rChop_c {w : World} {f : Fo} {h n : Nat} (hf : 1 + szF f ≤ 200) (hh : h < heF f) (hn : n ≤ 1000) :
    Calls Tryz.prog 49 #[S (txH f), .int .i64 (h : Int), .int .i64 (n : Int)] w (Ret fun r w' => ((∃ x, refChop f h n = some x ∧ r = .tuple #[S x, .bool true]) ∨ (refChop f h n = none ∧ ∃ v, r = .tuple #[v, .bool false])) ∧ Below w.heap.size w w') := by
  have hlen := txH_len f
  obtain ⟨p, hp, q, A, k1, k2, B, hA, hs, hpq, hor⟩ := chop_at (n := n) hh
  have hpl := hpos_len f 1
  have hpair : pairs ((txH f).drop 1) 1 = hpos f 1 := by
    show pairs (txF f ++ [41]) 1 = _
    exact pairs_H f
  have hsl : (txH f).length = q + 2 + 2 * (szF k1 + 1 + szF k2) + B.length := by
    rw [hs]
    simp only [List.length_append, List.length_cons, txF_len, ap_sz, szF, hA]
    omega
  refine calls_W (vs := [_, _, _]) Tryz.func49 rfl (by kernel_rfl) rfl ?_
  (repeat (first | with_reducible refine W.seq ?_ | with_reducible refine Ops.nil ?_ | with_reducible refine W.region ?_ | refine z_p (kk := ?_)))
  refine Ops.call rfl rfl rfl rfl rfl (rHeads_c (s := txH f) (by omega)) (fun v w1 hR => ?_)
  obtain ⟨hL, hb1⟩ := hR
  rw [hpair] at hL
  have hsl1 : SlI w1 v (intL (hpos f 1)) := (hL.base hb1.size).sl (z := (0 : Int))
  have hil : (intL (hpos f 1)).length = heF f := by rw [show (intL (hpos f 1)).length = (hpos f 1).length from List.length_map _, hpl]
  have hget : (intL (hpos f 1)).getD h 0 = (p : Int) := by
    unfold intL
    rw [List.getD_eq_getElem?_getD, List.getElem?_map, hp]; rfl
  have hb11 : Below w1.heap.size w1 w1 := Below.refl _ _
  (repeat (first | with_reducible refine W.seq ?_ | with_reducible refine Ops.nil ?_ | with_reducible refine W.region ?_ | refine z_p (kk := ?_) | refine z_a (kk := ?_) | with_reducible refine W.block ?_ | refine z_I (kk := fun _ => ?_)))
  rw [hget, show (p : Int) - 1 = ((p - 1 : Nat) : Int) by omega]
  have hd0 : ∀ jj, (txH f).drop (q + 1 + jj) = (txF k1 ++ (txF (.cons .nil k2) ++ 41 :: B)).drop jj := fun jj => by
    rw [hs, ← List.drop_drop, ← List.drop_drop, ← hA, List.drop_left, tx_ap]; simp
  have hq0 : (txH f).drop q = 40 :: (txF (apF k1 (.cons .nil k2)) ++ 41 :: B) := by rw [hs, ← hA, List.drop_left]
  have hq0' := hq0
  have hcut : (txH f).take p ++ (txH f).drop (p + 2) = A ++ (40 :: (txF (apF k1 k2) ++ 41 :: B)) := by
    have e1 : txH f = (A ++ (40 :: txF k1)) ++ (40 :: 41 :: (txF k2 ++ 41 :: B)) := by rw [hs, tx_ap]; simp [txF]
    have e2 : (A ++ (40 :: txF k1)).length = p := by simp [txF_len, hA]; omega
    rw [e1, ← e2, List.take_left, ← List.drop_drop, List.drop_left, tx_ap]
    simp
  have hs1l : (A ++ (40 :: (txF (apF k1 k2) ++ 41 :: B))).length = (txH f).length - 2 := by
    simp only [List.length_append, List.length_cons, txF_len, ap_sz, hA]
    omega
  have hs1d : (A ++ (40 :: (txF (apF k1 k2) ++ 41 :: B))).drop q = 40 :: (txF (apF k1 k2) ++ 41 :: B) := by rw [← hA, List.drop_left]
  have hwl : (40 :: (txF (apF k1 k2) ++ [41])).length = 2 + 2 * (szF k1 + szF k2) := by simp [txF_len, ap_sz]; omega
  have htk : ((A ++ (40 :: (txF (apF k1 k2) ++ 41 :: B))).take (q + 2 + 2 * szF (apF k1 k2))) = A ++ (40 :: (txF (apF k1 k2) ++ [41])) := by
    have e1 : A ++ (40 :: (txF (apF k1 k2) ++ 41 :: B)) = (A ++ (40 :: (txF (apF k1 k2) ++ [41]))) ++ B := by simp
    have e2 : (A ++ (40 :: (txF (apF k1 k2) ++ [41]))).length = q + 2 + 2 * szF (apF k1 k2) := by simp [txF_len, hA]; omega
    rw [e1, ← e2, List.take_left]
  have hdk : ((A ++ (40 :: (txF (apF k1 k2) ++ 41 :: B))).drop (q + 2 + 2 * szF (apF k1 k2))) = B := by
    have e1 : A ++ (40 :: (txF (apF k1 k2) ++ 41 :: B)) = (A ++ (40 :: (txF (apF k1 k2) ++ [41]))) ++ B := by simp
    have e2 : (A ++ (40 :: (txF (apF k1 k2) ++ [41]))).length = q + 2 + 2 * szF (apF k1 k2) := by simp [txF_len, hA]; omega
    rw [e1, ← e2, List.drop_left]
  have hwd : (A ++ (40 :: (txF (apF k1 k2) ++ [41]))).drop q = 40 :: (txF (apF k1 k2) ++ [41]) := by rw [← hA, List.drop_left]
  have hcl := txH_len (chF f h n).1
  have hK2 : szF (apF k1 k2) = szF k1 + szF k2 := ap_sz k1 k2
  have hK1 : szF (apF k1 (.cons .nil k2)) = szF k1 + 1 + szF k2 := by rw [ap_sz]; simp only [szF]; omega
  refine W.loop (fun m ρ w2 => ∃ j : Nat, m = j - q ∧ ρ = [(0, S (txH f)), (2, .int .i64 (n : Int)), (8, .int .i64 (p : Int)), (9, .int .i64 (j : Int))] ∧ w2 = w1 ∧ q ≤ j ∧ j + 1 ≤ p)
    ⟨_, _, ⟨p - 1, rfl, rfl, rfl, by omega, by omega⟩, (by repeat (first | exact trivial | refine And.intro rfl ?_))⟩ ?_
  rintro m ρ w2 ⟨j, rfl, rfl, rfl, hqj, hjp⟩
  have hjl : j < (txH f).length := by omega
  have hat := drop_at hjl
  by_cases hjq : j = q
  · subst hjq
    rw [hq0] at hat
    simp only [List.cons.injEq] at hat
    have hx : ((txH f).getD j 0).toNat = 40 := by rw [← hat.1]; rfl
    have f1 : (((((txH f).getD j 0).toNat : Nat) : Int) == 41) = false := by rw [hx]; rfl
    clear hat hx hq0
    (repeat (first | with_reducible refine W.seq ?_ | with_reducible refine W.region ?_ | refine z_p (kk := ?_) | refine z_y (kk := ?_) | refine z_ev (EV.sidx rfl rfl rfl rfl (by omega)) (kk := ?_) | refine z_h (kk := ?_)))
    refine Ops.callS rfl rfl rfl rfl rfl (rBehind_c (by omega) hq0') ?_
    rw [hK1]
    (repeat (first | with_reducible refine Ops.nil ?_ | refine z_p (kk := ?_) | refine z_y (kk := ?_)))
    refine W.condF rfl (by first | rfl | (simp; done) | (simp; omega)) ?_
    (repeat (first | with_reducible refine W.seq ?_ | refine W.exit rfl ?_))
    have ht1 : ((txH f).take p).length ≤ (txH f).length := by rw [List.length_take]; omega
    have ht2 : ((txH f).drop (p + 2)).length ≤ (txH f).length := by rw [List.length_drop]; omega
    refine W.ordA 99 [(0, 1), (1, 1), (2, 1), (3, 1), (4, 1), (5, 1), (6, 1), (7, 1), (8, 1)] rfl (by kernel_rfl) rfl (by kernel_rfl) (fun _ _ _ h => h) ?_
    (repeat (first | refine x_p (kk := ?_) | refine x_a (kk := ?_) | refine x_ev rfl (fun _ => EV.sto rfl rfl rfl rfl (by omega)) (kk := ?_)))
    rw [show (p : Int) + 2 = ((p + 2 : Nat) : Int) by omega]
    (repeat (first | refine x_p (kk := ?_) | refine x_ev rfl (fun _ => EV.sfrom rfl rfl rfl rfl (by omega)) (kk := ?_) | refine x_ev rfl (fun _ => EV.sadd rfl rfl rfl (by first | omega | (simp only [List.length_append, List.length_cons, List.length_nil]; omega))) (kk := ?_)))
    rw [hcut]
    have hs1l' := hs1l
    generalize hS1 : A ++ (40 :: (txF (apF k1 k2) ++ 41 :: B)) = s1 at *
    refine OrdA.nil (fun w3 hb3 => ?_)
    have hb03 := Below.via hb1 hb3
    rcases hor with ⟨hj0, hout, _⟩ | ⟨hj0, hout⟩
    · have hres : refChop f h n = some s1 := by
        unfold refChop
        rw [hout] at hcl
        rw [if_pos (by omega), hout]
      subst hj0
      (repeat (first | with_reducible refine W.seq ?_ | with_reducible refine Ops.nil ?_ | with_reducible refine W.region ?_ | refine z_p (kk := ?_)))
      refine W.condT rfl (by first | rfl | assumption | (simp only [bnf] <;> omega) | (simp only [*, bnf]; done) | fail) ?_
      (repeat (first | with_reducible refine W.seq ?_ | with_reducible refine Ops.nil ?_ | with_reducible refine W.region ?_ | refine z_p (kk := ?_)))
      exact W.fret rfl ⟨.inl ⟨s1, hres, rfl⟩, hb03⟩
    · have f3 : (((j : Nat) : Int) == 0) = false := by rw [beq_eq_false_iff_ne]; omega
      generalize hww : 40 :: (txF (apF k1 k2) ++ [41]) = ww at *
      have hrl := rp_len (n + 1) ww
      rw [hout] at hcl
      simp only [List.length_append, hrl, hA] at hcl
      have hmul : (n + 1) * ww.length = n * ww.length + ww.length := Nat.succ_mul _ _
      have hml : n * ww.length ≤ 1000 * 1000 := Nat.mul_le_mul hn (by omega)
      clear hsl1 hcut hs hd0 hq0' hpair
      (repeat (first | with_reducible refine W.seq ?_ | with_reducible refine Ops.nil ?_ | with_reducible refine W.region ?_ | refine z_p (kk := ?_)))
      refine W.condF rfl (by first | rfl | assumption | (simp; done) | (simp; omega)) ?_
      (repeat (first | with_reducible refine W.seq ?_ | with_reducible refine W.region ?_ | refine z_p (kk := ?_) | with_reducible refine W.skip ?_))
      refine Ops.callS rfl rfl rfl rfl rfl (rBehind_c (by omega) hs1d) ?_
      (repeat (first | with_reducible refine W.seq ?_ | with_reducible refine Ops.nil ?_ | with_reducible refine W.region ?_ | refine z_p (kk := ?_) | refine z_ev (EV.slen rfl rfl rfl) (kk := ?_) | refine z_ev (EV.ssub rfl rfl rfl rfl rfl (by omega) (by omega)) (kk := ?_)))
      rw [htk, hwd]
      (repeat (first | with_reducible refine Ops.nil ?_ | refine z_p (kk := ?_) | refine z_a (kk := ?_)))
      rw [show (n : Int) * ((ww.length : Nat) : Int) = ((n * ww.length : Nat) : Int) by push_cast; rfl]
      by_cases hfull : 400 < s1.length + n * ww.length
      · have hres : refChop f h n = none := by
          unfold refChop
          rw [if_neg (by omega)]
        skip
        refine W.condT rfl (by first | (simp; done) | (simp; omega)) ?_
        (repeat (first | with_reducible refine W.seq ?_ | with_reducible refine Ops.nil ?_ | with_reducible refine W.region ?_ | refine z_p (kk := ?_)))
        exact W.fret rfl ⟨.inr ⟨hres, _, rfl⟩, hb03⟩
      · have hres : refChop f h n = some (A ++ (rpL (n + 1) ww ++ B)) := by
          unfold refChop
          rw [if_pos (by omega), hout]
        skip
        refine W.condF rfl (by first | (simp; done) | (simp; omega)) ?_
        (repeat (first | with_reducible refine W.seq ?_ | with_reducible refine Ops.nil ?_ | with_reducible refine W.region ?_ | refine z_p (kk := ?_) | with_reducible refine W.skip ?_ | with_reducible refine W.block ?_ | refine z_ev (EV.sto rfl rfl rfl rfl (by omega)) (kk := ?_)))
        rw [htk]
        have hel : j + 2 + 2 * szF (apF k1 k2) ≤ s1.length := by omega
        generalize he : j + 2 + 2 * szF (apF k1 k2) = e at *
        have hBl : B.length ≤ 400 := by omega
        refine W.loop (fun m ρ w4 => ∃ c : Nat, m = n - c ∧ c ≤ n ∧ ρ = [(0, S s1), (2, .int .i64 (n : Int)), (10, .int .i64 (e : Int)), (11, S ww), (12, S (A ++ rpL (c + 1) ww)), (13, .int .i64 (c : Int))] ∧ w4 = w3)
          ⟨_, _, ⟨0, rfl, Nat.zero_le _, rfl, rfl⟩, by simp only [rpL, List.append_nil]; exact (by repeat (first | exact trivial | refine And.intro rfl ?_))⟩ ?_
        rintro m ρ w4 ⟨c, rfl, hc, rfl, rfl⟩
        have hrc := rp_len (c + 1) ww
        have hcm : (c + 1) * ww.length ≤ (n + 1) * ww.length := Nat.mul_le_mul_right _ (by omega)
        have hAl : (A ++ rpL (c + 1) ww).length = j + (c + 1) * ww.length := by rw [List.length_append, hrc, hA]
        have hsn : A ++ rpL (c + 1) ww ++ ww = A ++ rpL (c + 1 + 1) ww := by rw [List.append_assoc, rp_snoc]
        by_cases hcn : c < n
        · generalize A ++ rpL (c + 1) ww = acc at *
          (repeat (first | with_reducible refine W.seq ?_ | with_reducible refine Ops.nil ?_ | with_reducible refine W.region ?_ | refine z_p (kk := ?_)))
          refine W.condT rfl (by first | (simp; done) | (simp; omega)) ?_
          (repeat (first | with_reducible refine W.seq ?_ | with_reducible refine Ops.nil ?_ | with_reducible refine W.region ?_ | refine z_p (kk := ?_) | refine z_a (kk := ?_) | with_reducible refine W.skip ?_ | with_reducible refine W.endb ?_ | with_reducible refine W.block ?_ | refine z_ev (EV.sadd rfl rfl rfl (by first | omega | (simp only [List.length_append, List.length_cons, List.length_nil]; omega))) (kk := ?_)))
          rw [hsn]
          skip
          exact W.endl ⟨_, _, ⟨⟨c + 1, rfl, by omega, rfl, rfl⟩, by omega⟩, (by repeat (first | exact trivial | refine And.intro rfl ?_))⟩
        · have hcn' : c = n := by omega
          subst hcn'
          generalize hacc : A ++ rpL (c + 1) ww = acc at *
          (repeat (first | with_reducible refine W.seq ?_ | with_reducible refine Ops.nil ?_ | with_reducible refine W.region ?_ | refine z_p (kk := ?_)))
          refine W.condF rfl (by first | (simp; done) | (simp; omega)) ?_
          (repeat (first | with_reducible refine W.seq ?_ | with_reducible refine W.region ?_ | refine z_p (kk := ?_) | refine W.exit rfl ?_ | refine z_ev (EV.sfrom rfl rfl rfl rfl (by omega)) (kk := ?_)))
          rw [hdk]
          (repeat (first | with_reducible refine Ops.nil ?_ | refine z_p (kk := ?_) | refine z_ev (EV.sadd rfl rfl rfl (by first | omega | (simp only [List.length_append, List.length_cons, List.length_nil]; omega))) (kk := ?_)))
          refine W.fret rfl ⟨.inl ⟨_, hres, ?_⟩, hb03⟩
          rw [← List.append_assoc, hacc]
          rfl
  · obtain ⟨jj, rfl⟩ : ∃ jj, j = q + 1 + jj := ⟨j - q - 1, by omega⟩
    rcases tx_sub k1 jj (txF (.cons .nil k2) ++ 41 :: B) (by omega) with ⟨u, hu⟩ | ⟨k', u, hu, hk⟩
    · rw [hd0, hu] at hat
      simp only [List.cons.injEq] at hat
      have hx : ((txH f).getD (q + 1 + jj) 0).toNat = 41 := by rw [← hat.1]; rfl
      have f1 : (((((txH f).getD (q + 1 + jj) 0).toNat : Nat) : Int) == 41) = true := by rw [hx]; rfl
      (repeat (first | with_reducible refine W.seq ?_ | with_reducible refine Ops.nil ?_ | with_reducible refine W.region ?_ | refine z_p (kk := ?_) | refine z_n (kk := ?_) | refine z_ev (EV.sidx rfl rfl rfl rfl (by omega)) (kk := ?_) | refine z_g (kk := ?_)))
      refine W.condT rfl (by first | rfl | assumption | (simp; done) | (simp; omega)) ?_
      (repeat (first | with_reducible refine Ops.nil ?_ | with_reducible refine W.region ?_ | refine z_p (kk := ?_) | refine z_a (kk := ?_) | with_reducible refine W.skip ?_ | with_reducible refine W.endb ?_ | with_reducible refine W.block ?_))
      rw [show ((q + 1 + jj : Nat) : Int) - 1 = ((q + jj : Nat) : Int) by omega]
      skip
      exact W.endl ⟨_, _, ⟨⟨q + jj, rfl, rfl, rfl, by omega, by omega⟩, by omega⟩, (by repeat (first | exact trivial | refine And.intro rfl ?_))⟩
    · have hd1 := hd0 jj
      rw [hu] at hd1
      rw [hd1] at hat
      simp only [List.cons.injEq] at hat
      have hx : ((txH f).getD (q + 1 + jj) 0).toNat = 40 := by rw [← hat.1]; rfl
      have f1 : (((((txH f).getD (q + 1 + jj) 0).toNat : Nat) : Int) == 41) = false := by rw [hx]; rfl
      clear hat hx hu hq0 hd0
      (repeat (first | with_reducible refine W.seq ?_ | with_reducible refine W.region ?_ | refine z_p (kk := ?_) | refine z_y (kk := ?_) | refine z_ev (EV.sidx rfl rfl rfl rfl (by omega)) (kk := ?_) | refine z_h (kk := ?_)))
      refine Ops.callS rfl rfl rfl rfl rfl (rBehind_c (by omega) hd1) ?_
      (repeat (first | with_reducible refine Ops.nil ?_ | refine z_p (kk := ?_) | refine z_y (kk := ?_)))
      refine W.condT rfl (by first | (simp; done) | (simp; omega)) ?_
      (repeat (first | with_reducible refine Ops.nil ?_ | with_reducible refine W.region ?_ | refine z_p (kk := ?_) | refine z_a (kk := ?_) | with_reducible refine W.skip ?_ | with_reducible refine W.endb ?_ | with_reducible refine W.block ?_))
      rw [show ((q + 1 + jj : Nat) : Int) - 1 = ((q + jj : Nat) : Int) by omega]
      skip
      exact W.endl ⟨_, _, ⟨⟨q + jj, rfl, rfl, rfl, by omega, by omega⟩, by omega⟩, (by repeat (first | exact trivial | refine And.intro rfl ?_))⟩
end Go.Proofs.YtcmjlmnfdncajaaGreatDoor
namespace Go.Proofs.YtcmjlmnfdncajaaGreatDoor
open Go Go.RowKit Go.Proofs.YtcmjlmnfdncajaaGreatDoor.VW Go.Proofs.YtcmjlmnfdncajaaGreatDoor.TW
attribute [local irreducible] W Ops OrdA VW.Ord OrdX Wi OpsI OrdF
theorem rTimes_c {w : World} {x y : Nat} (hx : x ≤ 2305843009213693952) (hy : 1 ≤ y) (hy2 : y ≤ 1000000) : Calls Tryz.prog 85 #[.int .i64 (x : Int), .int .i64 (y : Int)] w (Ret fun r w' => r = .int .i64 (cap61 (x * y) : Nat) ∧ w' = w) := by
  refine calls_W (vs := [_, _]) Tryz.func85 rfl (by kernel_rfl) rfl ?_
  have hd1 : decide ((y : Int) > 0) = true := decide_eq_true (by omega)
  have hdm := Nat.div_add_mod 2305843009213693952 y
  have hml := Nat.mod_lt 2305843009213693952 (show y > 0 by omega)
  (repeat (first | with_reducible refine W.seq ?_ | with_reducible refine Ops.nil ?_ | with_reducible refine W.region ?_ | refine z_p (kk := ?_) | refine z_y (kk := ?_) | refine z_h (kk := ?_)))
  refine z_ev (EV.quoN (u := 2305843009213693952) rfl rfl rfl (by omega) (by omega)) (kk := ?_)
  generalize 2305843009213693952 / y = q at *
  (repeat (first | with_reducible refine Ops.nil ?_ | refine z_p (kk := ?_) | refine z_y (kk := ?_)))
  by_cases h : q < x
  · refine W.condT rfl (by simp; omega) ?_
    (repeat (first | with_reducible refine W.seq ?_ | with_reducible refine Ops.nil ?_ | with_reducible refine W.region ?_ | refine z_p (kk := ?_)))
    refine W.fret rfl ⟨?_, rfl⟩
    have h1 : y * (q + 1) ≤ y * x := Nat.mul_le_mul_left _ h
    rw [Nat.mul_add, Nat.mul_one, Nat.mul_comm y x] at h1
    have : cap61 (x * y) = 2305843009213693952 := by unfold cap61; omega
    rw [this]; rfl
  · have h1 : y * x ≤ y * q := Nat.mul_le_mul_left _ (by omega)
    rw [Nat.mul_comm y x] at h1
    refine W.condF rfl (by simp; omega) ?_
    have h2 : x * y ≤ 2305843009213693952 := by omega
    (repeat (first | with_reducible refine W.seq ?_ | with_reducible refine Ops.nil ?_ | with_reducible refine W.region ?_ | refine z_p (kk := ?_) | refine z_a (kk := ?_) | with_reducible refine W.skip ?_))
    refine W.fret rfl ⟨?_, rfl⟩
    have : cap61 (x * y) = x * y := by unfold cap61; omega
    rw [this]
    push_cast
    rfl
set_option maxHeartbeats 4000000 in
theorem rSize_c : ∀ (n : Nat) {S' : Nat → Prop} {w : World} {v : Value} {o : Od}, szO o ≤ n → n ≤ 100000000 → OM S' w v o →
    Calls Tryz.prog 40 #[v] w (Ret fun r w' => r = .int .i64 (szO o : Nat) ∧ w' = w) := by
  intro n
  induction n using Nat.strongRecOn with
  | _ n ih =>
  intro S' w v o hn hbig hM
  obtain ⟨l, hR, hA⟩ := hM
  have hl := hA.len
  have hls := len_le_sz o
  obtain ⟨A, c, rfl⟩ := hR.sh
  have hbb : Below w.heap.size w w := Below.refl _ _
  refine calls_W (vs := [_]) Tryz.func40 rfl (by kernel_rfl) rfl ?_
  (repeat (first | with_reducible refine W.seq ?_ | with_reducible refine Ops.nil ?_ | with_reducible refine W.region ?_ | refine z_p (kk := ?_) | with_reducible refine W.block ?_))
  refine W.loop (fun m ρ w' => ∃ (i acc : Nat), m = l.length - i ∧ i ≤ l.length ∧ w' = w ∧ szO o = acc + szO (dropO o i) ∧ ρ = [(0, .slice A l.length c), (3, .int .i64 acc), (4, .int .i64 i)])
    ⟨_, _, ⟨0, 0, rfl, Nat.zero_le _, rfl, by rw [dropO_zero]; omega, rfl⟩, (by repeat (first | exact trivial | refine And.intro rfl ?_))⟩ ?_
  rintro m ρ w1 ⟨i, acc, rfl, hi, rfl, hacc, rfl⟩
  (repeat (first | with_reducible refine W.seq ?_ | with_reducible refine Ops.nil ?_ | with_reducible refine W.region ?_ | refine z_p (kk := ?_) | refine z_l (kk := ?_)))
  (first | refine W.condD rfl (fun hc => ?_) (fun hc => ?_) | refine W.condE rfl (fun hc => ?_) (fun hc => ?_) | refine W.condN rfl (fun hc => ?_) (fun hc => ?_) | refine W.cond rfl (fun hc => ?_) (fun hc => ?_))
  · have hil : i < l.length := by omega
    obtain ⟨a2, aM⟩ := hA.at_ (i := i) (by omega)
    have hsz := nthE_sz (o := o) (i := i) (by omega)
    rw [dropO_cons (by omega)] at hacc
    simp only [szO] at hacc
    (repeat (first | with_reducible refine W.seq ?_ | with_reducible refine W.region ?_ | refine z_p (kk := ?_) | refine z_a (kk := ?_) | with_reducible refine W.skip ?_ | with_reducible refine W.block ?_ | refine z_R0 (kk := fun _ _ => ?_)))
    refine Ops.callS rfl rfl rfl rfl rfl (ih _ (show szO (nthE o i) < n by omega) (Nat.le_refl _) (by omega) aM) ?_
    (repeat (first | with_reducible refine Ops.nil ?_ | with_reducible refine W.region ?_ | refine z_p (kk := ?_) | refine z_a (kk := ?_) | with_reducible refine W.endb ?_))
    exact W.endl ⟨_, _, ⟨⟨i + 1, acc + 1 + szO (nthE o i), rfl, by omega, rfl, by omega, rfl⟩, by omega⟩, (by repeat (first | exact trivial | refine And.intro rfl ?_))⟩
  · have hil : i = l.length := by omega
    subst hil
    rw [hl, dropO_len] at hacc
    simp only [szO] at hacc
    (repeat (first | with_reducible refine W.seq ?_ | with_reducible refine Ops.nil ?_ | with_reducible refine W.region ?_ | refine z_p (kk := ?_) | refine W.exit rfl ?_))
    refine W.fret rfl ⟨?_, rfl⟩
    rw [hacc]; rfl
/-- A list of one part, owned. -/
theorem lit_PR {w w1 : World} {r c : Nat} {ve : Value} (hM : Mk w w1 r (.cells #[ve, .int .i64 (c : Int)] 100)) : PR w.heap.size w1 (.slice (some ⟨r, 0, none⟩) 1 1) [(ve, c)] := by
  have e1 := hM.r_eq
  have hs := (Mk.bel hM).size
  have B1 : Blk w1 r #[ve, .int .i64 (c : Int)] 100 := hM.at_
  refine ⟨hs, tr_bel hs, ?_, fun i hi => ?_⟩
  · refine ⟨rfl, .inr ⟨r, 1, #[ve, .int .i64 (c : Int)], rfl, ?_, ?_, ?_, ?_, ?_, ?_⟩⟩
    all_goals first | exact Nat.le_refl _ | exact B1 | exact Nat.zero_le _ | rfl | decide | skip
  · rw [tr_size hs]
    simp [Value.ownBlock] at hi
    omega
end Go.Proofs.YtcmjlmnfdncajaaGreatDoor
namespace Go.Proofs.YtcmjlmnfdncajaaGreatDoor.VW
open Go Go.RowKit
section
variable {P : Program} [hT : Tab P] {n : Nat} {ρ : E} {w : World}
/-- string(b). -/
theorem EV.b2s {o : Oper} {s t e cap : Nat} {x : Operand} {a : Addr} {l : List UInt8} (ho : o.op = .convert s t x) (hs : tyD P s = some (.slice e)) (he : tyD P e = some (.int .u8)) (ht : tyD P t = some .string)
    (hx : ev ρ x = some (.slice (some a) l.length cap)) (hc : ∀ j (hj : j < l.length), w.cell? (a.add j) = some (.int .u8 (l[j].toNat : Int))) : EV P n ρ w o (S l) := by
  intro b hr
  have h := run_convert_bytes_back (P := P) w s t e a cap l (td_slice (tyD_ok hs)) (td_int (tyD_ok he)) (td_string (tyD_ok ht)) hc
  simp only [execOp, ho, hr.ev hx]
  simp [h]
end
end Go.Proofs.YtcmjlmnfdncajaaGreatDoor.VW
namespace Go.Proofs.YtcmjlmnfdncajaaGreatDoor
open Go Go.RowKit Go.Proofs.YtcmjlmnfdncajaaGreatDoor.VW Go.Proofs.YtcmjlmnfdncajaaGreatDoor.TW
attribute [local irreducible] W Ops OrdA VW.Ord OrdX Wi OpsI OrdF
theorem dec_rec (n : Nat) : dec n = (if n / 10 = 0 then [] else dec (n / 10)) ++ [UInt8.ofNat (48 + n % 10)] := by
  rw [dec_eq, Lib.decDigits]
  by_cases h : n < 10
  · rw [dif_pos h, if_pos (by omega), show n % 10 = n by omega]; rfl
  · rw [dif_neg h, if_neg (by omega), dec_eq]
theorem wrap8 {k : Nat} (h : k < 10) : IntKind.u8.wrap (48 + (k : Int)) = ((UInt8.ofNat (48 + k)).toNat : Int) := by
  have e1 : (UInt8.ofNat (48 + k)).toNat = 48 + k := by rw [UInt8.toNat_ofNat']; omega
  rw [e1]
  simp [IntKind.wrap, IntKind.bits, IntKind.signed]
  omega
theorem digit_cells {w : World} {r k : Nat} (hM : w.heap[r]? = some (.cells #[.int .u8 ((UInt8.ofNat (48 + k)).toNat : Int)] 5)) : ∀ j (hj : j < [UInt8.ofNat (48 + k)].length), w.cell? ((⟨r, 0, none⟩ : Addr).add j) = some (.int .u8 ([UInt8.ofNat (48 + k)][j].toNat : Int)) := by
  intro j hj
  simp at hj
  subst hj
  exact Blk.cell (b := r) (cs := #[.int .u8 ((UInt8.ofNat (48 + k)).toNat : Int)]) (t := 5) hM rfl
set_option maxHeartbeats 2000000 in
theorem digits_c {w : World} {n : Nat} (hn : n ≤ 1000000000) : Calls Tryz.prog 83 #[.int .i64 (n : Int)] w (Ret fun r w' => r = S (dec n) ∧ Below w.heap.size w w') := by
  refine calls_W (vs := [_]) Tryz.func83 rfl (by kernel_rfl) rfl ?_
  (repeat (first | with_reducible refine W.seq ?_ | with_reducible refine Ops.nil ?_ | with_reducible refine W.region ?_ | refine z_p (kk := ?_)))
  refine z_ev (EV.remN (v := 10) rfl rfl rfl (by omega)) (kk := ?_)
  (repeat (first | refine z_a (kk := ?_)))
  refine Ops.cv rfl rfl rfl rfl rfl rfl ?_
  rw [wrap8 (by omega)]
  refine Ops.bs1 rfl rfl rfl rfl rfl rfl rfl rfl rfl (fun w1 r1 hM1 => ?_)
  refine z_ev (EV.b2s (l := [UInt8.ofNat (48 + n % 10)]) rfl rfl rfl rfl rfl (digit_cells hM1.at_)) (kk := ?_)
  have hb1 := Mk.bel hM1
  (repeat (first | with_reducible refine W.seq ?_ | with_reducible refine Ops.nil ?_ | with_reducible refine W.region ?_ | refine z_p (kk := ?_)))
  refine z_ev (EV.quoN (v := 10) rfl rfl rfl (by omega) (by omega)) (kk := ?_)
  (repeat (first | with_reducible refine Ops.nil ?_ | refine z_p (kk := ?_) | with_reducible refine W.block ?_))
  refine W.loop (fun z ρ w2 => ∃ (m : Nat) (acc : List UInt8), m = z ∧ m ≤ n ∧ ρ = [(0, .int .i64 (m : Int)), (3, S acc)] ∧ Below w.heap.size w w2 ∧ dec n = (if m = 0 then [] else dec m) ++ acc ∧ acc.length + m ≤ n + 20)
    ⟨_, _, ⟨n / 10, [UInt8.ofNat (48 + n % 10)], rfl, by omega, rfl, hb1, dec_rec n, by simp; omega⟩, (by repeat (first | exact trivial | refine And.intro rfl ?_))⟩ ?_
  rintro z ρ w2 ⟨m, acc, rfl, hm, rfl, hb2, hd, hl⟩
  (repeat (first | with_reducible refine W.seq ?_ | with_reducible refine Ops.nil ?_ | with_reducible refine W.region ?_ | refine z_p (kk := ?_)))
  by_cases h0 : m = 0
  · subst h0
    refine W.condF rfl (by first | rfl | assumption | (simp only [bnf] <;> omega) | (simp only [*, bnf]; done) | fail) ?_
    (repeat (first | with_reducible refine W.seq ?_ | with_reducible refine Ops.nil ?_ | with_reducible refine W.region ?_ | refine z_p (kk := ?_) | refine W.exit rfl ?_))
    exact W.fret rfl ⟨by rw [hd]; rfl, hb2⟩
  · rw [if_neg h0] at hd
    refine W.condT rfl (by simp; omega) ?_
    (repeat (first | with_reducible refine W.seq ?_ | with_reducible refine W.region ?_ | refine z_p (kk := ?_) | with_reducible refine W.skip ?_ | with_reducible refine W.block ?_))
    refine z_ev (EV.remN (v := 10) rfl rfl rfl (by omega)) (kk := ?_)
    (repeat (first | refine z_a (kk := ?_)))
    refine Ops.cv rfl rfl rfl rfl rfl rfl ?_
    rw [wrap8 (by omega)]
    refine Ops.bs1 rfl rfl rfl rfl rfl rfl rfl rfl rfl (fun w3 r3 hM3 => ?_)
    refine z_ev (EV.b2s (l := [UInt8.ofNat (48 + m % 10)]) rfl rfl rfl rfl rfl (digit_cells hM3.at_)) (kk := ?_)
    have hb3 := Below.via hb2 (Mk.bel hM3)
    (repeat (first | with_reducible refine Ops.nil ?_ | with_reducible refine W.region ?_ | refine z_p (kk := ?_) | with_reducible refine W.endb ?_ | refine z_ev (EV.sadd rfl rfl rfl (by first | omega | (simp only [List.length_append, List.length_cons, List.length_nil]; omega))) (kk := ?_)))
    refine z_ev (EV.quoN (v := 10) rfl rfl rfl (by omega) (by omega)) (kk := ?_)
    (repeat (first | with_reducible refine Ops.nil ?_ | refine z_p (kk := ?_)))
    refine W.endl ⟨_, _, ⟨⟨m / 10, [UInt8.ofNat (48 + m % 10)] ++ acc, rfl, by omega, rfl, hb3, ?_, by simp; omega⟩, by omega⟩, (by repeat (first | exact trivial | refine And.intro rfl ?_))⟩
    rw [hd, dec_rec m]
    simp
theorem join_take {o : Od} {i : Nat} (hi : i < lenO o) : Lib.join ((partsT o).take (i + 1)) [43] = Lib.join ((partsT o).take i) [43] ++ (if 0 < i then [43] else []) ++ partT (nthE o i) (nthC o i) := by
  cases o with
  | nil => simp [lenO] at hi
  | cons e c r =>
    cases i with
    | zero => simp [partsT, Lib.join_one, Lib.join_nil, nthE, nthC]
    | succ i =>
      have h := partsT_at (o := r) (i := i) (by simp [lenO] at hi; omega)
      have hx : (partsT r)[i]? = some (partT (nthE r i) (nthC r i)) := by
        have := congrArg (fun l => l[i]?) h
        have hl : ((partsT r).take i).length = i := by rw [List.length_take, partsT_len]; simp [lenO] at hi; omega
        simpa [List.getElem?_append, hl, List.getElem?_take] using this
      rw [partsT, List.take_succ_cons, List.take_succ_cons, Lib.join_cons, Lib.join_cons, Lib.joinTail_take_succ _ _ _ _ hx]
      simp [nthE, nthC]
theorem join_len : ∀ {o : Od} {i : Nat}, mostO o ≤ 9999 → i ≤ lenO o → (Lib.join ((partsT o).take i) [43]).length ≤ 11 * szO o
  | o, 0, _, _ => by simp [Lib.join_nil]
  | .nil, i + 1, _, h => by simp [lenO] at h
  | .cons e c r, i + 1, hm, h => by
    have hmr : mostO r ≤ 9999 := by simp only [mostO] at hm; omega
    have h1 := txP_len e (by simp only [mostO] at hm; omega)
    have h3 := dec_len (c := c) (by simp only [mostO] at hm; omega)
    have h4 : (txE e (txP e)).length ≤ (txP e).length + 1 := by cases e <;> simp [txE, txP]
    have e1 : sW.length = 3 := rfl
    have e2 : sM.length = 2 := rfl
    have hp : (partT e c).length ≤ 10 + 11 * szO e := by simp only [partT, List.length_append]; omega
    rw [partsT, List.take_succ_cons, Lib.join_cons, List.length_append]
    have key : ∀ (r : Od) (i : Nat), mostO r ≤ 9999 → (Lib.joinTail [43] ((partsT r).take i)).length ≤ 11 * szO r := fun r => by
      induction r with
      | nil => intro i _; simp [partsT, Lib.joinTail, szO]
      | cons e' c' r' _ ih =>
        intro i hm
        cases i with
        | zero => simp [Lib.joinTail]
        | succ i =>
          have g1 := txP_len e' (by simp only [mostO] at hm; omega)
          have g3 := dec_len (c := c') (by simp only [mostO] at hm; omega)
          have g4 : (txE e' (txP e')).length ≤ (txP e').length + 1 := by cases e' <;> simp [txE, txP]
          have gp : (partT e' c').length ≤ 10 + 11 * szO e' := by simp only [partT, List.length_append]; omega
          have := ih i (by simp only [mostO] at hm; omega)
          simp only [partsT, List.take_succ_cons, Lib.joinTail, List.map_cons, List.flatten_cons, List.length_append, List.length_cons, List.length_nil] at this ⊢
          simp only [szO]
          omega
    have := key r i hmr
    simp only [szO]
    omega
set_option maxHeartbeats 4000000 in
theorem refText_c : ∀ (n : Nat) {S' : Nat → Prop} {w : World} {v : Value} {o : Od}, szO o ≤ n → n ≤ 100000000 → mostO o ≤ 9999 → OM S' w v o →
    Calls Tryz.prog 37 #[v] w (Ret fun r w' => r = S (txO o) ∧ Below w.heap.size w w') := by
  intro n
  induction n using Nat.strongRecOn with
  | _ n ih =>
  intro S' w v o hn hbig hmost hM
  obtain ⟨l, hR, hA⟩ := hM
  have hl := hA.len
  have hls := len_le_sz o
  have hbd := hR.bd
  obtain ⟨A, c, rfl⟩ := hR.sh
  refine calls_W (vs := [_]) Tryz.func37 rfl (by kernel_rfl) rfl ?_
  (repeat (first | with_reducible refine W.seq ?_ | with_reducible refine Ops.nil ?_ | with_reducible refine W.region ?_ | refine z_p (kk := ?_) | refine z_l (kk := ?_)))
  by_cases h0 : l.length = 0
  · refine W.condT rfl (by first | rfl | assumption | (simp only [bnf] <;> omega) | (simp only [*, bnf]; done) | fail) ?_
    (repeat (first | with_reducible refine W.seq ?_ | with_reducible refine Ops.nil ?_ | with_reducible refine W.region ?_ | refine z_p (kk := ?_)))
    refine W.fret rfl ⟨?_, Below.refl _ _⟩
    have : o = .nil := by cases o with
      | nil => rfl
      | cons e c r => simp [lenO] at hl; omega
    subst this
    rfl
  · refine W.condF rfl (by first | rfl | assumption | (simp only [bnf] <;> omega) | (simp only [*, bnf]; done) | fail) ?_
    (repeat (first | with_reducible refine W.seq ?_ | with_reducible refine Ops.nil ?_ | with_reducible refine W.region ?_ | refine z_p (kk := ?_) | with_reducible refine W.skip ?_ | with_reducible refine W.block ?_))
    refine W.loop (fun m ρ w' => ∃ (i : Nat), m = l.length - i ∧ i ≤ l.length ∧ Below w.heap.size w w' ∧ ρ = [(0, .slice A l.length c), (3, S (Lib.join ((partsT o).take i) [43])), (4, .int .i64 i)])
      ⟨_, _, ⟨0, rfl, Nat.zero_le _, Below.refl _ _, rfl⟩, (by repeat (first | exact trivial | refine And.intro rfl ?_))⟩ ?_
    rintro m ρ w1 ⟨i, rfl, hi, hb1, rfl⟩
    have hjl := join_len (o := o) (i := i) hmost (by omega)
    (repeat (first | with_reducible refine W.seq ?_ | with_reducible refine Ops.nil ?_ | with_reducible refine W.region ?_ | refine z_p (kk := ?_) | refine z_l (kk := ?_)))
    (first | refine W.condD rfl (fun hc => ?_) (fun hc => ?_) | refine W.condE rfl (fun hc => ?_) (fun hc => ?_) | refine W.condN rfl (fun hc => ?_) (fun hc => ?_) | refine W.cond rfl (fun hc => ?_) (fun hc => ?_))
    · have hil : i < l.length := by omega
      obtain ⟨a2, aM⟩ := hA.at_ (i := i) (by omega)
      have hsz := nthE_sz (o := o) (i := i) (by omega)
      obtain ⟨m1, m2⟩ := nth_most (o := o) (i := i) (by omega)
      have hjt := join_take (o := o) (i := i) (by omega)
      have hxl := txO_len (o := nthE o i) (by omega)
      have hdl := dec_len (c := nthC o i) (by omega)
      have hR1 := hR.below hb1
      have hb11 : Below w1.heap.size w1 w1 := Below.refl _ _
      generalize Lib.join ((partsT o).take i) [43] = acc at *
      (repeat (first | with_reducible refine W.seq ?_ | with_reducible refine Ops.nil ?_ | with_reducible refine W.region ?_ | refine z_p (kk := ?_) | with_reducible refine W.skip ?_ | with_reducible refine W.block ?_))
      refine W.cut (fun ρ w' => ρ = [(0, .slice A l.length c), (3, S (acc ++ (if 0 < i then [43] else []))), (4, .int .i64 i)] ∧ w' = w1) ?_ ?_
      · by_cases hi0 : 0 < i
        · rw [if_pos hi0]
          refine W.condT rfl (by simp; omega) ?_
          (repeat (first | with_reducible refine Ops.nil ?_ | with_reducible refine W.region ?_ | refine z_p (kk := ?_) | refine z_ev (EV.sadd rfl rfl rfl (by first | omega | (simp only [List.length_append, List.length_cons, List.length_nil]; omega))) (kk := ?_)))
          exact W.endl ⟨_, ⟨rfl, rfl⟩, (by repeat (first | exact trivial | refine And.intro rfl ?_))⟩
        · rw [if_neg hi0, List.append_nil]
          refine W.condF rfl (by simp; omega) ?_
          (repeat (first | with_reducible refine W.skip ?_))
          exact W.endl ⟨_, ⟨rfl, rfl⟩, (by repeat (first | exact trivial | refine And.intro rfl ?_))⟩
      rintro ρ w1' ⟨rfl, rfl⟩
      have hal : (acc ++ (if 0 < i then [43] else [])).length ≤ 11 * szO o + 1 := by
        rw [List.length_append]
        have : (if 0 < i then [43] else [] : List UInt8).length ≤ 1 := by split <;> simp
        omega
      generalize acc ++ (if 0 < i then [43] else []) = acc1 at *
      skip
      refine W.ordA 99 [(0, 1), (1, 1), (2, 1), (3, 1), (4, 1), (5, 1), (6, 2), (7, 2), (8, 1), (9, 1), (10, 1), (11, 1), (12, 1), (13, 1), (14, 2), (15, 2), (16, 1), (17, 1)] rfl (by kernel_rfl) rfl (by kernel_rfl) (fun _ _ _ h => h) ?_
      (repeat (first | refine x_p (kk := ?_) | refine x_R0 (kk := fun _ _ => ?_) | refine x_ev rfl (fun _ => EV.sadd rfl rfl rfl (by first | omega | (simp only [List.length_append, List.length_cons, List.length_nil]; omega))) (kk := ?_)))
      refine OrdA.call rfl rfl rfl rfl rfl rfl rfl (fun w' hw' => Calls.via hw' (ih _ (show szO (nthE o i) < n by omega) (Nat.le_refl _) (by omega) (by omega) (aM.below (Below.via hb1 hw')))) ?_
      (repeat (first | refine x_p (kk := ?_) | refine x_R1 (kk := fun _ _ => ?_) | refine x_ev rfl (fun _ => EV.sadd rfl rfl rfl (by first | omega | (simp only [List.length_append, List.length_cons, List.length_nil]; omega))) (kk := ?_)))
      rw [a2]
      refine OrdA.call rfl rfl rfl rfl rfl rfl rfl (fun w' hw' => Calls.via hw' (digits_c (n := nthC o i) (by omega))) ?_
      (repeat (first | refine x_p (kk := ?_) | refine x_ev rfl (fun _ => EV.sadd rfl rfl rfl (by first | omega | (simp only [List.length_append, List.length_cons, List.length_nil]; omega))) (kk := ?_)))
      refine OrdA.nil (fun w4 hb4 => ?_)
      (repeat (first | with_reducible refine Ops.nil ?_ | with_reducible refine W.region ?_ | refine z_p (kk := ?_) | refine z_a (kk := ?_) | with_reducible refine W.endb ?_))
      have he : acc1 ++ [119, 94, 40] ++ txO (nthE o i) ++ [41, 42] ++ dec (nthC o i) = Lib.join ((partsT o).take (i + 1)) [43] := by
        rw [hjt]; simp [partT, txO, sW, sM]
      rw [he]
      exact W.endl ⟨_, _, ⟨⟨i + 1, rfl, by omega, Below.via hb1 hb4, rfl⟩, by omega⟩, (by repeat (first | exact trivial | refine And.intro rfl ?_))⟩
    · have hil : i = l.length := by omega
      subst hil
      have hne : o ≠ .nil := by intro e; subst e; have : lenO .nil = 0 := rfl; omega
      have hj := join_parts o hne
      rw [List.take_of_length_le (by rw [partsT_len]; omega), hj]
      (repeat (first | with_reducible refine W.seq ?_ | with_reducible refine Ops.nil ?_ | with_reducible refine W.region ?_ | refine z_p (kk := ?_) | refine W.exit rfl ?_))
      refine W.fret rfl ⟨?_, hb1⟩
      unfold txO
      cases o with
      | nil => exact absurd rfl hne
      | cons e c r => rfl
end Go.Proofs.YtcmjlmnfdncajaaGreatDoor
namespace Go.Proofs.YtcmjlmnfdncajaaGreatDoor
open Go Go.RowKit Go.Proofs.YtcmjlmnfdncajaaGreatDoor.VW Go.Proofs.YtcmjlmnfdncajaaGreatDoor.TW
attribute [local irreducible] W Ops OrdA VW.Ord OrdX Wi OpsI OrdF
/-- An ordinal goes with a change. -/
theorem OM.put {S T S' : Nat → Prop} {w w' : World} {v : Value} {o : Od} (h : OM S w v o) (k : Kp T w w') (hT : ∀ i, T i → S i) (hS' : ∀ i, S' i → S i ∨ w.heap.size ≤ i) : OM S' w' v o :=
  ((h.more (S' := fun i => S i ∨ S' i) (fun i q => by rcases q with q | q; exact .inl q; exact hS' i q)).kp k (fun i q => .inl (hT i q))).more (fun i q => .inl (.inr q))
/-- Ordinals side by side. -/
def LM (S : Nat → Prop) (w : World) (hs : List HS) (os : List Od) : Prop := hs.length = os.length ∧ ∀ i, i < os.length → OM S w (eH (hs.getD i default)) (os.getD i .nil)
theorem LM.put {S T S' : Nat → Prop} {w w' : World} {hs : List HS} {os : List Od} (h : LM S w hs os) (k : Kp T w w') (hT : ∀ i, T i → S i) (hS' : ∀ i, S' i → S i ∨ w.heap.size ≤ i) : LM S' w' hs os := ⟨h.1, fun i hi => (h.2 i hi).put k hT hS'⟩
theorem LM.below {S : Nat → Prop} {w w' : World} {hs : List HS} {os : List Od} (h : LM S w hs os) (k : Below w.heap.size w w') : LM S w' hs os := ⟨h.1, fun i hi => (h.2 i hi).below k⟩
theorem LM.snoc {S : Nat → Prop} {w : World} {hs : List HS} {os : List Od} {v : HS} {o : Od} (h : LM S w hs os) (hv : OM S w (eH v) o) : LM S w (hs ++ [v]) (os ++ [o]) := by
  refine ⟨by simp [h.1], fun i hi => ?_⟩
  by_cases e : i < os.length
  · have := h.2 i e
    simpa [List.getD_eq_getElem?_getD, List.getElem?_append, e, h.1] using this
  · have e1 : i = os.length := by simp at hi; omega
    subst e1
    simpa [List.getD_eq_getElem?_getD, List.getElem?_append, h.1] using hv
theorem LM.nil {S : Nat → Prop} {w : World} : LM S w [] [] := ⟨rfl, fun i hi => by simp at hi⟩
theorem texts_c {w : World} {v1 v2 : Value} {xs ys : List (List UInt8)} (h1 : SlT w v1 xs) (h2 : SlT w v2 ys) :
    Calls Tryz.prog 32 #[v1, v2] w (Ret fun r w' => r = .bool (decide (xs = ys)) ∧ Below w.heap.size w w') := by
  have hl1 := Sl.len h1
  have hl2 := Sl.len h2
  obtain ⟨A, c, rfl⟩ := Sl.shape h1
  obtain ⟨B, d, rfl⟩ := Sl.shape h2
  refine calls_W (vs := [_, _]) Tryz.func32 rfl (by kernel_rfl) rfl ?_
  by_cases hl : xs.length = ys.length
  · (repeat (first | with_reducible refine W.seq ?_ | with_reducible refine Ops.nil ?_ | with_reducible refine W.region ?_ | refine z_p (kk := ?_) | refine z_l (kk := ?_)))
    refine W.condF rfl (by first | rfl | assumption | (simp only [bnf] <;> omega) | (simp only [*, bnf]; done) | fail) ?_
    (repeat (first | with_reducible refine W.seq ?_ | with_reducible refine Ops.nil ?_ | with_reducible refine W.region ?_ | refine z_p (kk := ?_) | with_reducible refine W.skip ?_ | with_reducible refine W.block ?_))
    refine W.loop (fun m ρ w1 => ∃ (i : Nat), m = xs.length - i ∧ i ≤ xs.length ∧ ρ = [(0, .slice A xs.length c), (1, .slice B ys.length d), (5, .int .i64 i)] ∧ Below w.heap.size w w1 ∧ ∀ j : Nat, j < i → xs.getD j [] = ys.getD j [])
      ⟨_, _, ⟨0, rfl, Nat.zero_le _, rfl, Below.refl _ _, fun j hj => by omega⟩, (by repeat (first | exact trivial | refine And.intro rfl ?_))⟩ ?_
    rintro m ρ w1 ⟨i, rfl, hi, rfl, hb1, heq⟩
    (repeat (first | with_reducible refine W.seq ?_ | with_reducible refine Ops.nil ?_ | with_reducible refine W.region ?_ | refine z_p (kk := ?_) | refine z_l (kk := ?_)))
    (first | refine W.condD rfl (fun hc => ?_) (fun hc => ?_) | refine W.condE rfl (fun hc => ?_) (fun hc => ?_) | refine W.condN rfl (fun hc => ?_) (fun hc => ?_) | refine W.cond rfl (fun hc => ?_) (fun hc => ?_))
    · have hil : i < xs.length := by omega
      (repeat (first | with_reducible refine W.seq ?_ | with_reducible refine W.skip ?_ | with_reducible refine W.block ?_))
      refine W.ordA 99 [(0, 1), (1, 1), (2, 1), (3, 2), (4, 1), (5, 1), (6, 1), (7, 2), (8, 1)] rfl (by kernel_rfl) rfl (by kernel_rfl) (fun _ _ _ h => h) ?_
      (repeat (first | refine x_p (kk := ?_) | refine x_TJ (kk := fun _ => ?_) | refine x_ev rfl (fun _ => EV.sne rfl rfl rfl rfl) (kk := ?_)))
      refine OrdA.nil (fun w2 hb2 => ?_)
      have hb02 := Below.via hb1 hb2
      by_cases e : xs.getD i [] = ys.getD i []
      · skip
        refine W.condF rfl (by simp only [decide_eq_true e]; rfl) ?_
        (repeat (first | with_reducible refine Ops.nil ?_ | with_reducible refine W.region ?_ | refine z_p (kk := ?_) | refine z_a (kk := ?_) | with_reducible refine W.skip ?_ | with_reducible refine W.endb ?_))
        exact W.endl ⟨_, _, ⟨⟨i + 1, rfl, by omega, rfl, hb02, fun j hj => by
          by_cases e2 : j = i
          · rw [e2]; exact e
          · exact heq j (by omega)⟩, by omega⟩, (by repeat (first | exact trivial | refine And.intro rfl ?_))⟩
      · skip
        refine W.condT rfl (by simp only [decide_eq_false e]; rfl) ?_
        (repeat (first | with_reducible refine W.seq ?_ | with_reducible refine Ops.nil ?_ | with_reducible refine W.region ?_ | refine z_p (kk := ?_)))
        exact W.fret rfl ⟨by rw [decide_eq_false (fun h => e (by rw [h]))]; rfl, hb02⟩
    · have hil : i = xs.length := by omega
      (repeat (first | with_reducible refine W.seq ?_ | with_reducible refine Ops.nil ?_ | with_reducible refine W.region ?_ | refine z_p (kk := ?_) | refine W.exit rfl ?_))
      refine W.fret rfl ⟨?_, hb1⟩
      rw [decide_eq_true]
      · rfl
      · refine List.ext_getElem hl (fun j h1 h2 => ?_)
        have := heq j (by omega)
        simpa [List.getD_eq_getElem?_getD, h1, h2] using this
  · (repeat (first | with_reducible refine W.seq ?_ | with_reducible refine Ops.nil ?_ | with_reducible refine W.region ?_ | refine z_p (kk := ?_) | refine z_l (kk := ?_)))
    refine W.condT rfl (by first | rfl | assumption | (simp only [bnf] <;> omega) | (simp only [*, bnf]; done) | fail) ?_
    (repeat (first | with_reducible refine W.seq ?_ | with_reducible refine Ops.nil ?_ | with_reducible refine W.region ?_ | refine z_p (kk := ?_)))
    exact W.fret rfl ⟨by rw [decide_eq_false (fun h => hl (by rw [h]))]; rfl, Below.refl _ _⟩
set_option maxHeartbeats 4000000 in
theorem told_c {S' : Nat → Prop} {w : World} {v : Value} {hs : List HS} {os : List Od} (hR : R1 S' w v hs) (hL : LM S' w hs os) (hz : ∀ i, i < os.length → szO (os.getD i .nil) ≤ 1000000 ∧ mostO (os.getD i .nil) ≤ 9999) (hn : os.length ≤ 1000000) :
    Calls Tryz.prog 33 #[v] w (Ret fun r w' => SlT w' r (os.map txO) ∧ Below w.heap.size w w') := by
  have hl := hL.1
  obtain ⟨A, c, rfl⟩ := hR.sh
  refine calls_W (vs := [_]) Tryz.func33 rfl (by kernel_rfl) rfl ?_
  (repeat (first | with_reducible refine W.seq ?_ | with_reducible refine Ops.nil ?_ | with_reducible refine W.region ?_ | refine z_p (kk := ?_) | with_reducible refine W.block ?_))
  refine W.loop (fun m ρ w1 => ∃ (i : Nat) (lv : Value), m = hs.length - i ∧ i ≤ hs.length ∧ ρ = [(0, .slice A hs.length c), (3, lv), (4, .int .i64 i)] ∧ Below w.heap.size w w1 ∧ LO 9 S w.heap.size w1 lv ((os.take i).map txO))
    ⟨_, _, ⟨0, _, rfl, Nat.zero_le _, rfl, Below.refl _ _, LO.nil⟩, (by repeat (first | exact trivial | refine And.intro rfl ?_))⟩ ?_
  rintro m ρ w1 ⟨i, lv, rfl, hi, rfl, hb1, hO⟩
  have hb11 : Below w1.heap.size w1 w1 := Below.refl _ _
  have hR1 := hR.below hb1
  (repeat (first | with_reducible refine W.seq ?_ | with_reducible refine Ops.nil ?_ | with_reducible refine W.region ?_ | refine z_p (kk := ?_) | refine z_l (kk := ?_)))
  (first | refine W.condD rfl (fun hc => ?_) (fun hc => ?_) | refine W.condE rfl (fun hc => ?_) (fun hc => ?_) | refine W.condN rfl (fun hc => ?_) (fun hc => ?_) | refine W.cond rfl (fun hc => ?_) (fun hc => ?_))
  · have hil : i < hs.length := by omega
    have aM := (hL.2 i (by omega)).below hb1
    obtain ⟨z1, z2⟩ := hz i (by omega)
    have htk : os.take (i + 1) = os.take i ++ [os.getD i .nil] := by
      rw [List.take_add_one]
      simp [List.getD_eq_getElem?_getD, show i < os.length by omega]
    have hll : ((os.take i).map txO).length = i := by rw [List.length_map, List.length_take]; omega
    generalize hva : hs.getD i default = vk at *
    (repeat (first | with_reducible refine W.seq ?_ | with_reducible refine W.region ?_ | refine z_p (kk := ?_) | with_reducible refine W.skip ?_ | with_reducible refine W.block ?_ | refine z_H (kk := fun _ => ?_)))
    rw [hva]
    refine Ops.call rfl rfl rfl rfl rfl (refText_c _ (Nat.le_refl _) (by omega) z2 aM) (fun r w2 hR2 => ?_)
    obtain ⟨rfl, hb2⟩ := hR2
    have hb02 := Below.via hb1 hb2
    have hO2 := hO.below hb2
    skip
    refine Ops.pushO (enc := S) (u := txO (os.getD i .nil)) rfl rfl rfl rfl rfl rfl rfl rfl rfl rfl rfl rfl (fun _ => rfl) rfl (hO2.base hb02.size) (by rw [hll]; omega) (fun lv' p w3 hO3 k3 hn3 => ?_)
    replace hO3 := LO.put hO3 hb02.size
    have hb03 : Below w.heap.size w w3 := Below.put hb02 k3 (fun j hj => hO2.ge j hj)
    rw [show (os.take i).map txO ++ [txO (os.getD i .nil)] = (os.take (i + 1)).map txO by rw [htk]; simp] at hO3
    (repeat (first | with_reducible refine Ops.nil ?_ | with_reducible refine W.region ?_ | refine z_p (kk := ?_) | refine z_a (kk := ?_) | with_reducible refine W.endb ?_))
    exact W.endl ⟨_, _, ⟨⟨i + 1, lv', rfl, by omega, rfl, hb03, hO3⟩, by omega⟩, (by repeat (first | exact trivial | refine And.intro rfl ?_))⟩
  · have hil : i = hs.length := by omega
    subst hil
    rw [hl, List.take_length] at hO
    (repeat (first | with_reducible refine W.seq ?_ | with_reducible refine Ops.nil ?_ | with_reducible refine W.region ?_ | refine z_p (kk := ?_) | refine W.exit rfl ?_))
    exact W.fret rfl ⟨(hO.base hb1.size).sl (z := ([] : List UInt8)), hb1⟩
theorem rNumber_c {w : World} {n : Nat} : Calls Tryz.prog 38 #[.int .i64 (n : Int)] w (Ret fun r w' => OM (fun i => i < w.heap.size) w' r (numO n) ∧ Below w.heap.size w w') := by
  refine calls_W (vs := [_]) Tryz.func38 rfl (by kernel_rfl) rfl ?_
  by_cases h : n = 0
  · subst h
    (repeat (first | with_reducible refine W.seq ?_ | with_reducible refine Ops.nil ?_ | with_reducible refine W.region ?_ | refine z_p (kk := ?_)))
    refine W.condT rfl (by first | rfl | assumption | (simp only [bnf] <;> omega) | (simp only [*, bnf]; done) | fail) ?_
    (repeat (first | with_reducible refine W.seq ?_ | with_reducible refine Ops.nil ?_ | with_reducible refine W.region ?_ | refine z_p (kk := ?_)))
    exact W.fret rfl ⟨OM.nil, Below.refl _ _⟩
  · (repeat (first | with_reducible refine W.seq ?_ | with_reducible refine Ops.nil ?_ | with_reducible refine W.region ?_ | refine z_p (kk := ?_)))
    refine W.condF rfl (by simp; omega) ?_
    (repeat (first | with_reducible refine W.seq ?_ | with_reducible refine W.region ?_ | refine z_p (kk := ?_) | with_reducible refine W.skip ?_))
    refine Ops.call rfl rfl rfl rfl rfl (one_c (S' := fun i => i < w.heap.size) (a := .nil) (c := n) (fun i h => h) OM.nil) (fun r w1 hR => ?_)
    obtain ⟨hM, hb⟩ := hR
    (repeat (first | with_reducible refine Ops.nil ?_ | refine z_p (kk := ?_)))
    refine W.fret rfl ⟨?_, hb⟩
    rw [show numO n = .cons .nil n .nil by unfold numO ptO; rw [if_pos (by omega)]]
    exact hM
end Go.Proofs.YtcmjlmnfdncajaaGreatDoor
namespace Go.Proofs.YtcmjlmnfdncajaaGreatDoor.VW
open Go Go.RowKit
section
variable {P : Program} [hT : Tab P] {n : Nat} {ρ : E} {w : World}
omit hT in
theorem EV.sub8 {o : Oper} {u v : Nat} {t t' : Nat} {x y : Operand} (ho : o.op = .binOp .sub t x y t') (hx : ev ρ x = some (.int .u8 (u : Int))) (hy : ev ρ y = some (.int .u8 (v : Int))) (hv : v ≤ u) (hu : u < 256) : EV P n ρ w o (.int .u8 ((u - v : Nat) : Int)) := by
  refine EV.bw ho hx hy ?_
  have h2 : IntKind.u8.wrap ((u : Int) - (v : Int)) = ((u - v : Nat) : Int) := by
    have : ((u : Int) - (v : Int)) % 256 = ((u - v : Nat) : Int) := by omega
    simp [IntKind.wrap, IntKind.bits, IntKind.signed, this]
  simp only [VW.bw, h2]
end
end Go.Proofs.YtcmjlmnfdncajaaGreatDoor.VW
namespace Go.Proofs.YtcmjlmnfdncajaaGreatDoor
open Go Go.RowKit Go.Proofs.YtcmjlmnfdncajaaGreatDoor.VW Go.Proofs.YtcmjlmnfdncajaaGreatDoor.TW
attribute [local irreducible] W Ops OrdA VW.Ord OrdX Wi OpsI OrdF
/-- What the reference's reader answers. -/
def RdOut (n : Nat) (s : List UInt8) (i : Nat) (w : World) (r : Value) (w' : World) : Prop :=
  (∃ o j v, r = .tuple #[v, .int .i64 ((j : Nat) : Int)] ∧ rdE (fun s => rdP n s none) (s.drop i) = some (o, s.drop j) ∧ i < j ∧ j ≤ s.length ∧ szO o + i ≤ j ∧ OM (fun k => k < w.heap.size) w' v o) ∨ (∃ v, r = .tuple #[v, .int .i64 (-1)] ∧ rdE (fun s => rdP n s none) (s.drop i) = none)
set_option maxHeartbeats 16000000 in
theorem rread_c : ∀ (n : Nat) {w : World} {s : List UInt8} {i : Nat}, s.length ≤ 1000 → i ≤ s.length → (s.drop i).length < n →
    Calls Tryz.prog 78 #[S s, .int .i64 (i : Int)] w (Ret fun r w' => RdOut n s i w r w' ∧ Below w.heap.size w w') := by
  intro n
  induction n using Nat.strongRecOn with
  | _ n ih =>
  intro w s i hs hi hn
  rw [List.length_drop] at hn
  refine calls_W (vs := [_, _]) Tryz.func78 rfl (by kernel_rfl) rfl ?_
  have hb00 : Below w.heap.size w w := Below.refl _ _
  refine W.seq ?_
  refine W.cut (fun ρ w' => ρ = [(0, S s), (1, .int .i64 (i : Int))] ∧ w' = w) ?_ ?_
  · (repeat (first | with_reducible refine Ops.nil ?_ | with_reducible refine W.region ?_ | refine z_p (kk := ?_)))
    exact W.endl ⟨_, ⟨rfl, rfl⟩, (by repeat (first | exact trivial | refine And.intro rfl ?_))⟩
  rintro ρ w' ⟨rfl, rfl⟩
  refine W.seq ?_
  refine W.cut (fun ρ w'' => ρ = [(0, S s), (1, .int .i64 (i : Int))] ∧ w'' = w' ∧ (i < s.length → (s.getD i 0).toNat ≠ 48)) ?_ ?_
  · by_cases h1 : i < s.length
    · have hd1 : decide ((i : Int) < (s.length : Int)) = true := decide_eq_true (by omega)
      by_cases h2 : (s.getD i 0).toNat = 48
      · (repeat (first | with_reducible refine W.seq ?_ | with_reducible refine Ops.nil ?_ | with_reducible refine W.region ?_ | refine z_p (kk := ?_) | refine z_y (kk := ?_) | refine z_ev (EV.slen rfl rfl rfl) (kk := ?_) | refine z_ev (EV.sidx rfl rfl rfl rfl (by omega)) (kk := ?_) | refine z_h (kk := ?_)))
        refine W.condT rfl (by rw [h2]; rfl) ?_
        (repeat (first | with_reducible refine W.seq ?_ | with_reducible refine Ops.nil ?_ | with_reducible refine W.region ?_ | refine z_p (kk := ?_) | refine z_a (kk := ?_)))
        exact W.fret rfl ⟨.inl ⟨.nil, i + 1, _, rfl, rdE_zero h1 h2, by omega, by omega, by simp only [szO]; omega, OM.nil⟩, hb00⟩
      · have h2' := h2
        have hd2 : (((s.getD i 0).toNat : Int) == 48) = false := by rw [beq_eq_false_iff_ne]; omega
        (repeat (first | with_reducible refine W.seq ?_ | with_reducible refine Ops.nil ?_ | with_reducible refine W.region ?_ | refine z_p (kk := ?_) | refine z_y (kk := ?_) | refine z_ev (EV.slen rfl rfl rfl) (kk := ?_) | refine z_ev (EV.sidx rfl rfl rfl rfl (by omega)) (kk := ?_) | refine z_h (kk := ?_)))
        refine W.condF rfl (by first | assumption | (simp; done) | (simp; omega)) ?_
        (repeat (first | with_reducible refine W.skip ?_))
        exact W.endl ⟨_, ⟨rfl, rfl, fun _ => h2'⟩, (by repeat (first | exact trivial | refine And.intro rfl ?_))⟩
    · have hd1 : decide ((i : Int) < (s.length : Int)) = false := decide_eq_false (by omega)
      (repeat (first | with_reducible refine W.seq ?_ | with_reducible refine Ops.nil ?_ | with_reducible refine W.region ?_ | refine z_p (kk := ?_) | refine z_n (kk := ?_) | refine z_ev (EV.slen rfl rfl rfl) (kk := ?_) | refine z_g (kk := ?_)))
      refine W.condF rfl (by first | rfl | (simp; done) | (simp; omega)) ?_
      (repeat (first | with_reducible refine W.skip ?_))
      exact W.endl ⟨_, ⟨rfl, rfl, fun h => absurd h h1⟩, (by repeat (first | exact trivial | refine And.intro rfl ?_))⟩
  rintro ρ w ⟨rfl, rfl, h48⟩
  have hrd : rdE (fun s => rdP n s none) (s.drop i) = rdP n (s.drop i) none := rdE_else (f := fun s => rdP n s none) h48
  unfold RdOut
  rw [hrd]
  clear hrd
  (repeat (first | with_reducible refine W.seq ?_ | with_reducible refine Ops.nil ?_ | with_reducible refine W.region ?_ | refine z_p (kk := ?_) | with_reducible refine W.block ?_))
  refine W.loop (fun m ρ w1 => ∃ (k m1 : Nat) (acc : Od) (l : List (Value × Nat)) (ov : Value), m = s.length + 1 - k ∧ ρ = [(0, S s), (1, .int .i64 (k : Int)), (6, ov)] ∧ i ≤ k ∧ k ≤ s.length ∧ Below w.heap.size w w1 ∧
      PR w.heap.size w1 ov l ∧ OA (fun j => j < w.heap.size ∨ ov.ownBlock = some j) w1 acc l ∧ szO acc + i ≤ k ∧ s.length - k < m1 ∧ m1 ≤ n ∧ rdP n (s.drop i) none = (rdP m1 (s.drop k) (lastE acc)).map (fun q => (appO acc q.1, q.2)))
    ⟨_, _, ⟨i, n, .nil, [], _, rfl, rfl, Nat.le_refl _, hi, hb00, PR.nil (Nat.le_refl _), rfl, by simp only [szO]; omega, hn, Nat.le_refl _, by show rdP n (s.drop i) none = (rdP n (s.drop i) none).map _; cases rdP n (s.drop i) none <;> rfl⟩, (by repeat (first | exact trivial | refine And.intro rfl ?_))⟩ ?_
  rintro m ρ w1 ⟨k, m1, acc, l, ov, rfl, rfl, hik, hk, hb1, hP, hA, hsz, hm1, hm1n, hres⟩
  obtain ⟨m', rfl⟩ : ∃ m', m1 = m' + 1 := ⟨m1 - 1, by omega⟩
  have hlen := hA.len
  have hlz := len_le_sz acc
  have hP0 := hP.1
  obtain ⟨Ao, co, rfl⟩ := hP.2.sh
  have hnone : (∀ r t, ¬ rdP (m' + 1) (s.drop k) (lastE acc) = some (r, t)) → rdP n (s.drop i) none = none := fun h1 => by
    rw [hres]
    cases hx : rdP (m' + 1) (s.drop k) (lastE acc) with
    | none => rfl
    | some u => exact absurd hx (h1 u.1 u.2)
  by_cases h3 : k + 3 ≤ s.length
  rotate_left
  · have hp1 : pre sW (s.drop k) = none := pre_short (p := sW) (show s.length < k + 3 by omega) hk
    have hno := hnone (fun r t h => by
      obtain ⟨t1, e, t2, t3, c, t4, q1, _⟩ := rdP_inv h
      rw [hp1] at q1; simp at q1)
    (repeat (first | with_reducible refine W.seq ?_ | with_reducible refine Ops.nil ?_ | with_reducible refine W.region ?_ | refine z_p (kk := ?_) | refine z_a (kk := ?_) | refine z_n (kk := ?_) | with_reducible refine W.block ?_ | refine z_ev (EV.slen rfl rfl rfl) (kk := ?_) | refine z_g (kk := ?_)))
    refine W.condT rfl (by first | (simp; done) | (simp; omega)) ?_
    (repeat (first | with_reducible refine W.seq ?_ | with_reducible refine Ops.nil ?_ | with_reducible refine W.region ?_ | refine z_p (kk := ?_)))
    exact W.fret rfl ⟨.inr ⟨_, rfl, hno⟩, hb1⟩
  have hd3 : decide ((k : Int) + 3 > (s.length : Int)) = false := decide_eq_false (by omega)
  have hpre1 := pre_sub (p := sW) (s := s) (i := k) 3 rfl
  by_cases h4 : (s.take (k + 3)).drop k = sW
  rotate_left
  · rw [if_neg h4] at hpre1
    have hno := hnone (fun r t h => by
      obtain ⟨t1, e, t2, t3, c, t4, q1, _⟩ := rdP_inv h
      rw [hpre1] at q1; simp at q1)
    have h4' : decide ((s.take (k + 3)).drop k = [119, 94, 40]) = false := decide_eq_false h4
    (repeat (first | with_reducible refine W.seq ?_ | with_reducible refine Ops.nil ?_ | with_reducible refine W.region ?_ | refine z_p (kk := ?_) | refine z_a (kk := ?_) | refine z_y (kk := ?_) | with_reducible refine W.block ?_ | refine z_ev (EV.slen rfl rfl rfl) (kk := ?_) | refine z_ev (EV.sne rfl rfl rfl rfl) (kk := ?_) | refine z_ev (EV.ssub rfl rfl rfl rfl rfl (by omega) (by omega)) (kk := ?_) | refine z_h (kk := ?_)))
    refine W.condT rfl (by first | rfl | assumption | (simp [h4']; done)) ?_
    (repeat (first | with_reducible refine W.seq ?_ | with_reducible refine Ops.nil ?_ | with_reducible refine W.region ?_ | refine z_p (kk := ?_)))
    exact W.fret rfl ⟨.inr ⟨_, rfl, hno⟩, hb1⟩
  rw [if_pos h4] at hpre1
  have h4' : decide ((s.take (k + 3)).drop k = [119, 94, 40]) = true := decide_eq_true h4
  (repeat (first | with_reducible refine W.seq ?_ | with_reducible refine Ops.nil ?_ | with_reducible refine W.region ?_ | refine z_p (kk := ?_) | refine z_a (kk := ?_) | refine z_y (kk := ?_) | with_reducible refine W.block ?_ | refine z_ev (EV.slen rfl rfl rfl) (kk := ?_) | refine z_ev (EV.sne rfl rfl rfl rfl) (kk := ?_) | refine z_ev (EV.ssub rfl rfl rfl rfl rfl (by omega) (by omega)) (kk := ?_) | refine z_h (kk := ?_)))
  refine W.condF rfl (by first | rfl | assumption | (simp [h4']; done)) ?_
  (repeat (first | with_reducible refine W.seq ?_ | with_reducible refine W.region ?_ | refine z_p (kk := ?_) | refine z_a (kk := ?_) | with_reducible refine W.skip ?_))
  rw [show (k : Int) + 3 = ((k + 3 : Nat) : Int) by omega]
  refine Ops.call rfl rfl rfl rfl rfl (ih m' (by omega) (i := k + 3) hs h3 (by rw [List.length_drop]; omega)) (fun r w2 hR => ?_)
  obtain ⟨hor, hb2⟩ := hR
  have hb02 := Below.via hb1 hb2
  rcases hor with ⟨e, j, ve, rfl, hE, hkj, hjs, hsze, hM2⟩ | ⟨v, rfl, hE⟩
  rotate_left
  · have hno := hnone (fun r t h => by
      obtain ⟨t1, e, t2, t3, c, t4, q1, q2, _⟩ := rdP_inv h
      rw [hpre1] at q1
      simp only [Option.some.injEq] at q1
      subst q1
      rw [hE] at q2; simp at q2)
    (repeat (first | with_reducible refine W.seq ?_ | with_reducible refine Ops.nil ?_ | with_reducible refine W.region ?_ | refine z_p (kk := ?_) | refine z_n (kk := ?_)))
    refine W.condT rfl (by first | rfl | (simp; done)) ?_
    (repeat (first | with_reducible refine W.seq ?_ | with_reducible refine Ops.nil ?_ | with_reducible refine W.region ?_ | refine z_p (kk := ?_)))
    exact W.fret rfl ⟨.inr ⟨_, rfl, hno⟩, hb02⟩
  have hdj : decide ((j : Int) < 0) = false := decide_eq_false (by omega)
  by_cases h5 : j + 2 ≤ s.length
  rotate_left
  · have hp2 : pre sM (s.drop j) = none := pre_short (p := sM) (show s.length < j + 2 by omega) hjs
    have hno := hnone (fun r t h => by
      obtain ⟨t1, e, t2, t3, c, t4, q1, q2, q3, _⟩ := rdP_inv h
      rw [hpre1] at q1
      simp only [Option.some.injEq] at q1
      subst q1
      rw [hE] at q2
      simp only [Option.some.injEq, Prod.mk.injEq] at q2
      obtain ⟨rfl, rfl⟩ := q2
      rw [hp2] at q3; simp at q3)
    (repeat (first | with_reducible refine W.seq ?_ | with_reducible refine Ops.nil ?_ | with_reducible refine W.region ?_ | refine z_p (kk := ?_) | refine z_a (kk := ?_) | refine z_y (kk := ?_) | refine z_n (kk := ?_) | refine z_ev (EV.slen rfl rfl rfl) (kk := ?_) | refine z_g (kk := ?_)))
    refine W.condT rfl (by first | (simp; done) | (simp; omega)) ?_
    (repeat (first | with_reducible refine W.seq ?_ | with_reducible refine Ops.nil ?_ | with_reducible refine W.region ?_ | refine z_p (kk := ?_)))
    exact W.fret rfl ⟨.inr ⟨_, rfl, hno⟩, hb02⟩
  have hd5 : decide ((j : Int) + 2 > (s.length : Int)) = false := decide_eq_false (by omega)
  have hpre2 := pre_sub (p := sM) (s := s) (i := j) 2 rfl
  by_cases h6 : (s.take (j + 2)).drop j = sM
  rotate_left
  · rw [if_neg h6] at hpre2
    have hno := hnone (fun r t h => by
      obtain ⟨t1, e, t2, t3, c, t4, q1, q2, q3, _⟩ := rdP_inv h
      rw [hpre1] at q1
      simp only [Option.some.injEq] at q1
      subst q1
      rw [hE] at q2
      simp only [Option.some.injEq, Prod.mk.injEq] at q2
      obtain ⟨rfl, rfl⟩ := q2
      rw [hpre2] at q3; simp at q3)
    have h6' : decide ((s.take (j + 2)).drop j = [41, 42]) = false := decide_eq_false h6
    (repeat (first | with_reducible refine W.seq ?_ | with_reducible refine Ops.nil ?_ | with_reducible refine W.region ?_ | refine z_p (kk := ?_) | refine z_a (kk := ?_) | refine z_y (kk := ?_) | refine z_ev (EV.slen rfl rfl rfl) (kk := ?_) | refine z_ev (EV.sne rfl rfl rfl rfl) (kk := ?_) | refine z_ev (EV.ssub rfl rfl rfl rfl rfl (by omega) (by omega)) (kk := ?_) | refine z_h (kk := ?_)))
    refine W.condT rfl (by first | rfl | assumption | (simp [h6']; done)) ?_
    (repeat (first | with_reducible refine W.seq ?_ | with_reducible refine Ops.nil ?_ | with_reducible refine W.region ?_ | refine z_p (kk := ?_)))
    exact W.fret rfl ⟨.inr ⟨_, rfl, hno⟩, hb02⟩
  rw [if_pos h6] at hpre2
  have h6' : decide ((s.take (j + 2)).drop j = [41, 42]) = true := decide_eq_true h6
  (repeat (first | with_reducible refine W.seq ?_ | with_reducible refine Ops.nil ?_ | with_reducible refine W.region ?_ | refine z_p (kk := ?_) | refine z_a (kk := ?_) | refine z_y (kk := ?_) | refine z_ev (EV.slen rfl rfl rfl) (kk := ?_) | refine z_ev (EV.sne rfl rfl rfl rfl) (kk := ?_) | refine z_ev (EV.ssub rfl rfl rfl rfl rfl (by omega) (by omega)) (kk := ?_) | refine z_h (kk := ?_)))
  refine W.condF rfl (by first | rfl | assumption | (simp [h6']; done)) ?_
  refine W.skip ?_
  refine W.seq ?_
  refine W.cut (fun ρ w' => ρ = [(0, S s), (1, .int .i64 ((j + 2 : Nat) : Int)), (6, .slice Ao l.length co), (7, ve)] ∧ w' = w2) ?_ ?_
  · (repeat (first | with_reducible refine Ops.nil ?_ | with_reducible refine W.region ?_ | refine z_p (kk := ?_) | refine z_a (kk := ?_)))
    exact W.endl ⟨_, ⟨rfl, rfl⟩, (by repeat (first | exact trivial | refine And.intro rfl ?_))⟩
  rintro ρ w2' ⟨rfl, rfl⟩
  refine W.seq ?_
  refine W.cut (fun ρ w' => ρ = [(0, S s), (1, .int .i64 ((j + 2 : Nat) : Int)), (6, .slice Ao l.length co), (7, ve), (9, .int .i64 0)] ∧ w' = w2') ?_ ?_
  · (repeat (first | with_reducible refine Ops.nil ?_ | with_reducible refine W.region ?_ | refine z_p (kk := ?_)))
    exact W.endl ⟨_, ⟨rfl, rfl⟩, (by repeat (first | exact trivial | refine And.intro rfl ?_))⟩
  rintro ρ w2 ⟨rfl, rfl⟩
  refine W.seq ?_
  refine W.cut (fun ρ w' => ∃ (q c : Nat), ρ = [(0, S s), (1, .int .i64 (q : Int)), (6, .slice Ao l.length co), (7, ve), (9, .int .i64 (c : Int))] ∧ w' = w2 ∧ digL 0 (s.drop (j + 2)) = (c, s.drop q) ∧ j + 2 ≤ q ∧ q ≤ s.length ∧ c ≤ 10009) ?_ ?_
  · (repeat (first | with_reducible refine W.block ?_))
    refine W.loop (fun m ρ w3 => ∃ (q c : Nat), m = s.length - q ∧ ρ = [(0, S s), (1, .int .i64 (q : Int)), (6, .slice Ao l.length co), (7, ve), (9, .int .i64 (c : Int))] ∧ w3 = w2 ∧ digL 0 (s.drop (j + 2)) = digL c (s.drop q) ∧ j + 2 ≤ q ∧ q ≤ s.length ∧ c ≤ 10009)
      ⟨_, _, ⟨j + 2, 0, rfl, rfl, rfl, rfl, Nat.le_refl _, h5, by omega⟩, (by repeat (first | exact trivial | refine And.intro rfl ?_))⟩ ?_
    rintro m ρ w3 ⟨q, c, rfl, rfl, rfl, hdig, hjq, hqs, hc⟩
    by_cases hgo : q < s.length ∧ 48 ≤ (s.getD q 0).toNat ∧ (s.getD q 0).toNat ≤ 57 ∧ c ≤ 1000 ∧ (0 < c ∨ 48 < (s.getD q 0).toNat)
    · obtain ⟨g1, g2, g3, g4, g5⟩ := hgo
      rw [dig_go g1 g2 g3 g4 g5] at hdig
      generalize hx : (s.getD q 0).toNat = x at *
      have e1 : decide ((q : Int) < (s.length : Int)) = true := decide_eq_true (by omega)
      have e2 : decide ((x : Int) ≥ 48) = true := decide_eq_true (by omega)
      have e3 : decide ((x : Int) ≤ 57) = true := decide_eq_true (by omega)
      have e4 : decide ((c : Int) ≤ 1000) = true := decide_eq_true (by omega)
      by_cases hc0 : 0 < c
      all_goals (
        (repeat (first | with_reducible refine W.seq ?_ | with_reducible refine Ops.nil ?_ | with_reducible refine W.region ?_ | refine z_p (kk := ?_) | refine z_y (kk := ?_) | refine z_n (kk := ?_) | refine z_ev (EV.slen rfl rfl rfl) (kk := ?_) | refine z_ev (EV.sidx rfl rfl rfl rfl (by omega)) (kk := ?_) | refine z_g (kk := ?_) | refine z_h (kk := ?_)))
        rw [hx]
        skip
        try rw [hx]
        skip
        refine W.condT rfl (by first | rfl | assumption | (simp; done) | (simp; omega)) ?_
        (repeat (first | with_reducible refine W.seq ?_ | with_reducible refine W.region ?_ | refine z_p (kk := ?_) | refine z_a (kk := ?_) | with_reducible refine W.skip ?_ | with_reducible refine W.block ?_ | refine z_ev (EV.sidx rfl rfl rfl rfl (by omega)) (kk := ?_)))
        rw [hx]
        refine z_ev (EV.sub8 (v := 48) rfl rfl rfl (by omega) (by omega)) (kk := ?_)
        refine Ops.cv rfl rfl rfl rfl rfl rfl ?_
        rw [wrapN (by omega)]
        (repeat (first | with_reducible refine Ops.nil ?_ | with_reducible refine W.region ?_ | refine z_p (kk := ?_) | refine z_a (kk := ?_) | with_reducible refine W.endb ?_))
        rw [show 10 * (c : Int) + ((x - 48 : Nat) : Int) = ((10 * c + (x - 48) : Nat) : Int) by omega]
        exact W.endl ⟨_, _, ⟨⟨q + 1, 10 * c + (x - 48), rfl, rfl, rfl, hdig, by omega, by omega, by omega⟩, by omega⟩, (by repeat (first | exact trivial | refine And.intro rfl ?_))⟩)
    · rw [dig_stop hgo] at hdig
      by_cases g1 : q < s.length
      rotate_left
      · have e1 : decide ((q : Int) < (s.length : Int)) = false := decide_eq_false (by omega)
        (repeat (first | with_reducible refine W.seq ?_ | with_reducible refine Ops.nil ?_ | with_reducible refine W.region ?_ | refine z_p (kk := ?_) | refine z_n (kk := ?_) | refine z_u (kk := ?_) | refine z_ev (EV.slen rfl rfl rfl) (kk := ?_) | refine z_g (kk := ?_)))
        refine W.condF rfl (by first | rfl | assumption | (simp; done) | (simp; omega)) ?_
        (repeat (first | refine W.exit rfl ?_))
        exact W.endl ⟨_, ⟨q, c, rfl, rfl, hdig, hjq, hqs, hc⟩, (by repeat (first | exact trivial | refine And.intro rfl ?_))⟩
      have e1 : decide ((q : Int) < (s.length : Int)) = true := decide_eq_true (by omega)
      generalize hx : (s.getD q 0).toNat = x at *
      by_cases g2 : 48 ≤ x
      rotate_left
      · have e2 : decide ((x : Int) ≥ 48) = false := decide_eq_false (by omega)
        (repeat (first | with_reducible refine W.seq ?_ | with_reducible refine Ops.nil ?_ | with_reducible refine W.region ?_ | refine z_p (kk := ?_) | refine z_y (kk := ?_) | refine z_n (kk := ?_) | refine z_u (kk := ?_) | refine z_ev (EV.slen rfl rfl rfl) (kk := ?_) | refine z_ev (EV.sidx rfl rfl rfl rfl (by omega)) (kk := ?_) | refine z_g (kk := ?_) | refine z_h (kk := ?_)))
        rw [hx]
        skip
        refine W.condF rfl (by first | rfl | assumption | (simp; done) | (simp; omega)) ?_
        (repeat (first | refine W.exit rfl ?_))
        exact W.endl ⟨_, ⟨q, c, rfl, rfl, hdig, hjq, hqs, hc⟩, (by repeat (first | exact trivial | refine And.intro rfl ?_))⟩
      have e2 : decide ((x : Int) ≥ 48) = true := decide_eq_true (by omega)
      by_cases g3 : x ≤ 57
      rotate_left
      · have e3 : decide ((x : Int) ≤ 57) = false := decide_eq_false (by omega)
        (repeat (first | with_reducible refine W.seq ?_ | with_reducible refine Ops.nil ?_ | with_reducible refine W.region ?_ | refine z_p (kk := ?_) | refine z_y (kk := ?_) | refine z_n (kk := ?_) | refine z_u (kk := ?_) | refine z_ev (EV.slen rfl rfl rfl) (kk := ?_) | refine z_ev (EV.sidx rfl rfl rfl rfl (by omega)) (kk := ?_) | refine z_g (kk := ?_) | refine z_h (kk := ?_)))
        rw [hx]
        skip
        try rw [hx]
        skip
        refine W.condF rfl (by first | rfl | assumption | (simp; done) | (simp; omega)) ?_
        (repeat (first | refine W.exit rfl ?_))
        exact W.endl ⟨_, ⟨q, c, rfl, rfl, hdig, hjq, hqs, hc⟩, (by repeat (first | exact trivial | refine And.intro rfl ?_))⟩
      have e3 : decide ((x : Int) ≤ 57) = true := decide_eq_true (by omega)
      by_cases g4 : c ≤ 1000
      rotate_left
      · have e4 : decide ((c : Int) ≤ 1000) = false := decide_eq_false (by omega)
        (repeat (first | with_reducible refine W.seq ?_ | with_reducible refine Ops.nil ?_ | with_reducible refine W.region ?_ | refine z_p (kk := ?_) | refine z_y (kk := ?_) | refine z_n (kk := ?_) | refine z_u (kk := ?_) | refine z_ev (EV.slen rfl rfl rfl) (kk := ?_) | refine z_ev (EV.sidx rfl rfl rfl rfl (by omega)) (kk := ?_) | refine z_g (kk := ?_) | refine z_h (kk := ?_)))
        rw [hx]
        skip
        try rw [hx]
        skip
        refine W.condF rfl (by first | rfl | assumption | (simp; done) | (simp; omega)) ?_
        (repeat (first | refine W.exit rfl ?_))
        exact W.endl ⟨_, ⟨q, c, rfl, rfl, hdig, hjq, hqs, hc⟩, (by repeat (first | exact trivial | refine And.intro rfl ?_))⟩
      have e4 : decide ((c : Int) ≤ 1000) = true := decide_eq_true (by omega)
      have e5 : decide ((c : Int) > 0) = false := decide_eq_false (by omega)
      (repeat (first | with_reducible refine W.seq ?_ | with_reducible refine Ops.nil ?_ | with_reducible refine W.region ?_ | refine z_p (kk := ?_) | refine z_y (kk := ?_) | refine z_ev (EV.slen rfl rfl rfl) (kk := ?_) | refine z_ev (EV.sidx rfl rfl rfl rfl (by omega)) (kk := ?_) | refine z_h (kk := ?_)))
      rw [hx]
      skip
      try rw [hx]
      skip
      try rw [hx]
      skip
      refine W.condF rfl (by first | rfl | assumption | (simp; done) | (simp; omega)) ?_
      (repeat (first | refine W.exit rfl ?_))
      exact W.endl ⟨_, ⟨q, c, rfl, rfl, hdig, hjq, hqs, hc⟩, (by repeat (first | exact trivial | refine And.intro rfl ?_))⟩
  rintro ρ w2' ⟨q, c, rfl, rfl, hdig, hjq, hqs, hc⟩
  have hs1 := hb1.size
  have hrdN : rdN (s.drop (j + 2)) = if 1 ≤ c ∧ c ≤ 1000 then some (c, s.drop q) else none := by rw [rdN_dig, hdig]
  have hP2 := pr_kp hP (kpF hb2) (fun _ _ e => e)
  have hA2 := hA.kp (kpF hb2) (fun _ e => e.elim)
  have hown : ∀ i, (Value.slice Ao l.length co).ownBlock = some i → i < w1.heap.size := fun i h => (hP.2.own.lt i h).2
  have hM2' : OM (fun j => j < w.heap.size ∨ (Value.slice Ao l.length co).ownBlock = some j) w2' ve e := hM2.more (fun j h => .inl (by
    show j < w1.heap.size
    rcases h with h | h
    · omega
    · exact hown j h))
  have hR2 : R2 (fun i => i < w.heap.size) w2' (.slice Ao l.length co) l := pr_R2 hP2 (by omega) (fun i hi => by have := pr_ge hP2 i hi; omega)
  have hb22 : Below w2'.heap.size w2' w2' := Below.refl _ _
  refine W.seq ?_
  refine W.cut (fun ρ w' => ρ = [(0, S s), (1, .int .i64 (q : Int)), (6, .slice Ao l.length co), (7, ve), (9, .int .i64 (c : Int))] ∧ Below w2'.heap.size w2' w' ∧ 1 ≤ c ∧ c ≤ 1000 ∧ okL (lastE acc) e = true) ?_ ?_
  · by_cases hcr : 1 ≤ c ∧ c ≤ 1000
    rotate_left
    · rw [if_neg hcr] at hrdN
      have hno := hnone (fun r t h => by
        obtain ⟨t1, e, t2, t3, c, t4, q1, q2, q3, q4, _⟩ := rdP_inv h
        rw [hpre1] at q1
        simp only [Option.some.injEq] at q1
        subst q1
        rw [hE] at q2
        simp only [Option.some.injEq, Prod.mk.injEq] at q2
        obtain ⟨rfl, rfl⟩ := q2
        rw [hpre2] at q3
        simp only [Option.some.injEq] at q3
        subst q3
        rw [hrdN] at q4; simp at q4)
      by_cases hc1 : c < 1
      all_goals (
        (repeat (first | with_reducible refine W.seq ?_ | with_reducible refine Ops.nil ?_ | with_reducible refine W.region ?_ | refine z_p (kk := ?_) | refine z_y (kk := ?_) | refine z_n (kk := ?_) | refine z_u (kk := ?_) | refine z_g (kk := ?_) | refine z_h (kk := ?_)))
        refine W.condT rfl (by first | (simp; done) | (simp; omega)) ?_
        (repeat (first | with_reducible refine W.seq ?_ | with_reducible refine Ops.nil ?_ | with_reducible refine W.region ?_ | refine z_p (kk := ?_)))
        exact W.fret rfl ⟨.inr ⟨_, rfl, hno⟩, hb02⟩)
    · obtain ⟨hc1, hc2⟩ := hcr
      rw [if_pos ⟨hc1, hc2⟩] at hrdN
      have f1 : decide ((c : Int) < 1) = false := decide_eq_false (by omega)
      have f2 : decide ((c : Int) > 1000) = false := decide_eq_false (by omega)
      by_cases hz : l.length = 0
      · have hacc : acc = .nil := lenO_zero.1 (by omega)
        have hok : okL (lastE acc) e = true := by rw [hacc]; rfl
        (repeat (first | with_reducible refine W.seq ?_ | with_reducible refine Ops.nil ?_ | with_reducible refine W.region ?_ | refine z_p (kk := ?_) | refine z_y (kk := ?_) | refine z_n (kk := ?_) | refine z_l (kk := ?_) | refine z_g (kk := ?_) | refine z_h (kk := ?_)))
        refine W.condF rfl (by first | rfl | assumption | (simp; done) | (simp; omega)) ?_
        (repeat (first | with_reducible refine W.skip ?_))
        exact W.endl ⟨_, ⟨rfl, hb22, hc1, hc2, hok⟩, (by repeat (first | exact trivial | refine And.intro rfl ?_))⟩
      · have hacc : acc ≠ .nil := fun h => hz (by rw [hlen, h]; rfl)
        have hla := lastE_at hacc
        obtain ⟨a2, aM⟩ := hA2.at_ (i := lenO acc - 1) (by omega)
        have f3 : decide ((l.length : Int) > 0) = true := decide_eq_true (by omega)
        (repeat (first | with_reducible refine W.seq ?_ | with_reducible refine W.region ?_ | refine z_p (kk := ?_) | refine z_a (kk := ?_) | refine z_y (kk := ?_) | refine z_l (kk := ?_) | refine z_h (kk := ?_)))
        rw [show ((l.length : Nat) : Int) - 1 = ((lenO acc - 1 : Nat) : Int) by omega]
        (repeat (first | refine z_p (kk := ?_) | refine z_y (kk := ?_) | refine z_R0 (kk := fun _ _ => ?_)))
        refine Ops.call rfl rfl rfl rfl rfl (refCompare_c _ (Nat.le_refl _) aM hM2') (fun r w3 hR => ?_)
        obtain ⟨rfl, hb23⟩ := hR
        have hsw := cmp_swap (nthE acc (lenO acc - 1)) e
        by_cases hcm : cmpO (nthE acc (lenO acc - 1)) e ≤ 0
        · have hbad : okL (lastE acc) e = false := by rw [hla]; exact decide_eq_false (by omega)
          have hno := hnone (fun r t h => by
            obtain ⟨t1, e', t2, t3, c, t4, q1, q2, q3, q4, q5, _⟩ := rdP_inv h
            rw [hpre1] at q1
            simp only [Option.some.injEq] at q1
            subst q1
            rw [hE] at q2
            simp only [Option.some.injEq, Prod.mk.injEq] at q2
            obtain ⟨rfl, rfl⟩ := q2
            rw [hbad] at q5; simp at q5)
          (repeat (first | with_reducible refine Ops.nil ?_ | refine z_p (kk := ?_) | refine z_y (kk := ?_)))
          refine W.condT rfl (by first | rfl | assumption | (simp; done) | (simp; omega)) ?_
          (repeat (first | with_reducible refine W.seq ?_ | with_reducible refine Ops.nil ?_ | with_reducible refine W.region ?_ | refine z_p (kk := ?_)))
          exact W.fret rfl ⟨.inr ⟨_, rfl, hno⟩, Below.via hb02 hb23⟩
        · have hok : okL (lastE acc) e = true := by rw [hla]; exact decide_eq_true (by omega)
          (repeat (first | with_reducible refine Ops.nil ?_ | refine z_p (kk := ?_) | refine z_y (kk := ?_)))
          refine W.condF rfl (by first | rfl | assumption | (simp; done) | (simp; omega)) ?_
          (repeat (first | with_reducible refine W.skip ?_))
          exact W.endl ⟨_, ⟨rfl, hb23, hc1, hc2, hok⟩, (by repeat (first | exact trivial | refine And.intro rfl ?_))⟩
  rintro ρ w3 ⟨rfl, hb23, hc1, hc2, hok⟩
  rw [if_pos ⟨hc1, hc2⟩] at hrdN
  have hnext := rdP_eq (m := m') (s := s.drop k) (last := lastE acc) hpre1 hE hpre2 hrdN hok
  have hb03 := Below.via hb02 hb23
  have hP3 := pr_kp hP2 (kpF hb23) (fun _ _ e => e)
  have hA3 := hA2.kp (kpF hb23) (fun _ e => e.elim)
  have hM3 := hM2'.below hb23
  have hee := hM3.one
  have hsz4 : szO (snocO acc e c) = szO acc + (1 + szO e) := by unfold snocO; rw [szO_app]; simp only [szO]; omega
  (repeat (first | with_reducible refine W.seq ?_ | with_reducible refine W.region ?_ | refine z_p (kk := ?_)))
  refine Ops.bld2 rfl rfl rfl rfl rfl rfl rfl hee rfl ?_
  refine Ops.pushP (fa := pA) (fb := pB) (z := (ve, c)) rfl rfl rfl rfl rfl rfl rfl rfl rfl rfl rfl (fun _ => rfl) hee rfl hP3.2 (by omega) (fun lv' p w9 hO9 k9 hn9 => ?_)
  have hP9 := pr_put hP3 (tr_size hP3.1) hO9 k9.size
  have hmo : ∀ i, ((i < w.heap.size ∨ (Value.slice Ao l.length co).ownBlock = some i) ∨ lv'.ownBlock = some i) → (i < w.heap.size ∨ (Value.slice Ao l.length co).ownBlock = some i) ∨ w3.heap.size ≤ i := fun i h => by
    rcases h with h | h
    · exact .inl h
    · rcases hn9 i h with q | q
      · exact .inl (.inr q)
      · exact .inr q
  have hA9 := ((hA3.more hmo).kp k9 (fun i e => .inl (.inr e))).more (S' := fun i => i < w.heap.size ∨ lv'.ownBlock = some i) (fun i h => .inl (by rcases h with h | h; exact .inl (.inl h); exact .inr h))
  have hM9 := ((hM3.more hmo).kp k9 (fun i e => .inl (.inr e))).more (S' := fun i => i < w.heap.size ∨ lv'.ownBlock = some i) (fun i h => .inl (by rcases h with h | h; exact .inl (.inl h); exact .inr h))
  have hAs := OA_snoc (c := c) hM9 hA9
  have hb09 : Below w.heap.size w w9 := Below.put hb03 k9 (fun j hj => pr_ge hP3 j hj)
  have hfin : (q < s.length → (s.getD q 0).toNat ≠ 43) → (∃ o j v, Value.tuple #[lv', .int .i64 (q : Int)] = .tuple #[v, .int .i64 ((j : Nat) : Int)] ∧ rdP n (s.drop i) none = some (o, s.drop j) ∧ i < j ∧ j ≤ s.length ∧ szO o + i ≤ j ∧ OM (fun k => k < w.heap.size) w9 v o) := fun h => by
    rw [plus_no h] at hnext
    exact ⟨snocO acc e c, q, lv', rfl, by rw [hres, hnext]; rfl, by omega, hqs, by omega, ⟨_, pr_R2 hP9 (by simp; omega) (fun i hi => by have := pr_ge hP9 i hi; omega), hAs.more (fun i h => .inl (.inl h))⟩⟩
  by_cases hq : q = s.length
  · subst hq
    (repeat (first | with_reducible refine W.seq ?_ | with_reducible refine Ops.nil ?_ | with_reducible refine W.region ?_ | refine z_p (kk := ?_) | refine z_n (kk := ?_) | refine z_ev (EV.slen rfl rfl rfl) (kk := ?_) | refine z_g (kk := ?_)))
    refine W.condT rfl (by first | rfl | (simp; done)) ?_
    (repeat (first | with_reducible refine W.seq ?_ | with_reducible refine Ops.nil ?_ | with_reducible refine W.region ?_ | refine z_p (kk := ?_)))
    exact W.fret rfl ⟨.inl (hfin (fun h => by omega)), hb09⟩
  · have f4 : (((q : Nat) : Int) == ((s.length : Nat) : Int)) = false := by rw [beq_eq_false_iff_ne]; omega
    by_cases h43 : (s.getD q 0).toNat = 43
    · rw [plus_at (by omega) h43] at hnext
      have f5 : ((((s.getD q 0).toNat : Nat) : Int) != 43) = false := by rw [h43]; rfl
      (repeat (first | with_reducible refine W.seq ?_ | with_reducible refine Ops.nil ?_ | with_reducible refine W.region ?_ | refine z_p (kk := ?_) | refine z_y (kk := ?_) | refine z_ev (EV.slen rfl rfl rfl) (kk := ?_) | refine z_ev (EV.sidx rfl rfl rfl rfl (by omega)) (kk := ?_) | refine z_h (kk := ?_)))
      refine W.condF rfl (by first | rfl | assumption | (simp; done) | (simp; omega)) ?_
      (repeat (first | with_reducible refine Ops.nil ?_ | with_reducible refine W.region ?_ | refine z_p (kk := ?_) | refine z_a (kk := ?_) | with_reducible refine W.skip ?_ | with_reducible refine W.endb ?_))
      refine W.endl ⟨_, _, ⟨⟨q + 1, m', snocO acc e c, l ++ [(ve, c)], lv', rfl, rfl, by omega, by omega, hb09, hP9, hAs, by omega, by omega, by omega, ?_⟩, by omega⟩, (by repeat (first | exact trivial | refine And.intro rfl ?_))⟩
      replace hnext : rdP (m' + 1) (s.drop k) (lastE acc) = (rdP m' (s.drop (q + 1)) (some e)).map (fun q => (.cons e c q.1, q.2)) := hnext
      rw [hres, hnext, lastE_snoc]
      cases rdP m' (s.drop (q + 1)) (some e) with
      | none => rfl
      | some u => simp only [Option.map_some, appO_snoc]
    · have f5 : ((((s.getD q 0).toNat : Nat) : Int) != 43) = true := by rw [bne_iff_ne]; omega
      (repeat (first | with_reducible refine W.seq ?_ | with_reducible refine Ops.nil ?_ | with_reducible refine W.region ?_ | refine z_p (kk := ?_) | refine z_y (kk := ?_) | refine z_ev (EV.slen rfl rfl rfl) (kk := ?_) | refine z_ev (EV.sidx rfl rfl rfl rfl (by omega)) (kk := ?_) | refine z_h (kk := ?_)))
      refine W.condT rfl (by first | rfl | assumption | (simp; done) | (simp; omega)) ?_
      (repeat (first | with_reducible refine W.seq ?_ | with_reducible refine Ops.nil ?_ | with_reducible refine W.region ?_ | refine z_p (kk := ?_)))
      exact W.fret rfl ⟨.inl (hfin (fun h => h43)), hb09⟩
end Go.Proofs.YtcmjlmnfdncajaaGreatDoor
namespace Go.Proofs.YtcmjlmnfdncajaaGreatDoor.VW
open Go Go.RowKit
section
variable {P : Program} [hT : Tab P] {n : Nat} {ρ : E} {w : World}
omit hT in
theorem EV.max3 {o : Oper} {x y z : Operand} {ts : Array TypeId} {a b c : Int} (ho : o.op = .call { callee := .builtin .max, args := #[x, y, z], argTypes := ts }) (hx : ev ρ x = some (.int .i64 a)) (hy : ev ρ y = some (.int .i64 b)) (hz : ev ρ z = some (.int .i64 c)) : EV P n ρ w o (.int .i64 (Max.max (Max.max a b) c)) := by
  intro f hr
  have e : ∀ a b : Int, (if b > a then b else a) = Max.max a b := fun a b => by simp only [Int.max_def]; split <;> split <;> omega
  have e1 := e a b
  have e2 := e (Max.max a b) c
  simp [execOp, ho, resolve, hr.ev hx, hr.ev hy, hr.ev hz, invoke, builtin, Builtin.max_, Builtin.max2, ← e]
end
end Go.Proofs.YtcmjlmnfdncajaaGreatDoor.VW
namespace Go.Proofs.YtcmjlmnfdncajaaGreatDoor
open Go Go.RowKit Go.Proofs.YtcmjlmnfdncajaaGreatDoor.VW Go.Proofs.YtcmjlmnfdncajaaGreatDoor.TW
attribute [local irreducible] W Ops OrdA VW.Ord OrdX Wi OpsI OrdF
def shS (s : List UInt8) : List UInt8 := s.take (min s.length 1000)
theorem shS_len (s : List UInt8) : (shS s).length ≤ 1000 := by unfold shS; rw [List.length_take]; omega
theorem short_c {w : World} {s : List UInt8} : Calls Tryz.prog 23 #[S s] w (Ret fun r w' => r = S (shS s) ∧ w' = w) := by
  refine calls_W (vs := [_]) Tryz.func23 rfl (by kernel_rfl) rfl ?_
  have h1 : min s.length 1000 ≤ s.length := Nat.min_le_left _ _
  (repeat (first | with_reducible refine W.seq ?_ | with_reducible refine Ops.nil ?_ | with_reducible refine W.region ?_ | refine z_p (kk := ?_) | refine z_m (kk := ?_) | refine z_ev (EV.slen rfl rfl rfl) (kk := ?_)))
  rw [show min (s.length : Int) 1000 = ((min s.length 1000 : Nat) : Int) by omega]
  (repeat (first | with_reducible refine Ops.nil ?_ | refine z_p (kk := ?_) | refine z_ev (EV.sto rfl rfl rfl rfl (by omega)) (kk := ?_)))
  exact W.fret rfl ⟨rfl, rfl⟩
theorem rRead_c {w : World} {s : List UInt8} (hs : s.length ≤ 1000) : Calls Tryz.prog 26 #[S s] w (Ret fun r w' => ((∃ o v, rdA s = some o ∧ r = .tuple #[v, .bool true] ∧ OM (fun k => k < w.heap.size) w' v o) ∨ (∃ v, rdA s = none ∧ r = .tuple #[v, .bool false])) ∧ Below w.heap.size w w') := by
  have hdef : rdA s = match rdE (fun t => rdP (s.length + 1) t none) s with
    | some (o, []) => if szO o ≤ 60 then some o else none
    | _ => none := by
    generalize hq : rdE (fun t => rdP (s.length + 1) t none) s = q
    have h : rdO s = q := by
      rw [← hq]
      unfold rdO rdE
      split <;> rfl
    unfold rdA
    rw [h]
    cases q with
    | none => rfl
    | some q => obtain ⟨o, t⟩ := q; cases t <;> rfl
  refine calls_W (vs := [_]) Tryz.func26 rfl (by kernel_rfl) rfl ?_
  (repeat (first | with_reducible refine W.seq ?_ | with_reducible refine Ops.nil ?_ | with_reducible refine W.region ?_ | refine z_p (kk := ?_)))
  refine Ops.call rfl rfl rfl rfl rfl (rread_c (s.length + 1) (i := 0) hs (Nat.zero_le _) (by simp)) (fun r w1 hR => ?_)
  obtain ⟨hor, hb1⟩ := hR
  rcases hor with ⟨o, j, v, rfl, hE, h0j, hjs, hz, hM⟩ | ⟨v, rfl, hE⟩
  · rw [List.drop_zero] at hE
    rw [hE] at hdef
    by_cases hj : j = s.length
    · subst hj
      rw [List.drop_eq_nil_of_le (Nat.le_refl _)] at hdef
      simp only at hdef
      have f1 : (((s.length : Nat) : Int) != ((s.length : Nat) : Int)) = false := by simp
      (repeat (first | with_reducible refine W.seq ?_ | with_reducible refine Ops.nil ?_ | with_reducible refine W.region ?_ | refine z_p (kk := ?_) | refine z_y (kk := ?_) | refine z_ev (EV.slen rfl rfl rfl) (kk := ?_) | refine z_h (kk := ?_)))
      refine Ops.callS rfl rfl rfl rfl rfl (rSize_c _ (Nat.le_refl _) (by omega) hM) ?_
      by_cases h60 : szO o ≤ 60
      · rw [if_pos h60] at hdef
        (repeat (first | with_reducible refine Ops.nil ?_ | refine z_p (kk := ?_) | refine z_y (kk := ?_)))
        refine W.condF rfl (by first | rfl | assumption | (simp; done) | (simp; omega)) ?_
        (repeat (first | with_reducible refine W.seq ?_ | with_reducible refine Ops.nil ?_ | with_reducible refine W.region ?_ | refine z_p (kk := ?_) | with_reducible refine W.skip ?_))
        exact W.fret rfl ⟨.inl ⟨o, v, hdef, rfl, hM⟩, hb1⟩
      · rw [if_neg h60] at hdef
        (repeat (first | with_reducible refine Ops.nil ?_ | refine z_p (kk := ?_) | refine z_y (kk := ?_)))
        refine W.condT rfl (by first | rfl | assumption | (simp; done) | (simp; omega)) ?_
        (repeat (first | with_reducible refine W.seq ?_ | with_reducible refine Ops.nil ?_ | with_reducible refine W.region ?_ | refine z_p (kk := ?_)))
        exact W.fret rfl ⟨.inr ⟨_, hdef, rfl⟩, hb1⟩
    · have hne : s.drop j ≠ [] := fun e => by have := congrArg List.length e; simp at this; omega
      have hno : rdA s = none := by
        rw [hdef]
        cases hx : s.drop j with
        | nil => exact absurd hx hne
        | cons a t => rfl
      have f1 : (((j : Nat) : Int) != ((s.length : Nat) : Int)) = true := by rw [bne_iff_ne]; omega
      (repeat (first | with_reducible refine W.seq ?_ | with_reducible refine Ops.nil ?_ | with_reducible refine W.region ?_ | refine z_p (kk := ?_) | refine z_n (kk := ?_) | refine z_ev (EV.slen rfl rfl rfl) (kk := ?_) | refine z_g (kk := ?_)))
      refine W.condT rfl (by first | rfl | assumption | (simp; done) | (simp; omega)) ?_
      (repeat (first | with_reducible refine W.seq ?_ | with_reducible refine Ops.nil ?_ | with_reducible refine W.region ?_ | refine z_p (kk := ?_)))
      exact W.fret rfl ⟨.inr ⟨_, hno, rfl⟩, hb1⟩
  · rw [List.drop_zero] at hE
    rw [hE] at hdef
    have f1 : ((-1 : Int) != ((s.length : Nat) : Int)) = true := by rw [bne_iff_ne]; omega
    (repeat (first | with_reducible refine W.seq ?_ | with_reducible refine Ops.nil ?_ | with_reducible refine W.region ?_ | refine z_p (kk := ?_) | refine z_n (kk := ?_) | refine z_ev (EV.slen rfl rfl rfl) (kk := ?_)))
    refine W.condT rfl (by first | rfl | assumption | (simp; done) | (simp; omega)) ?_
    (repeat (first | with_reducible refine W.seq ?_ | with_reducible refine Ops.nil ?_ | with_reducible refine W.region ?_ | refine z_p (kk := ?_)))
    exact W.fret rfl ⟨.inr ⟨_, hdef, rfl⟩, hb1⟩
theorem rKind_c {S : Nat → Prop} {w : World} {v : Value} {o : Od} (hM : OM S w v o) : Calls Tryz.prog 27 #[v] w (Ret fun r w' => r = .int .i64 (kindO o : Nat) ∧ w' = w) := by
  obtain ⟨l, hR, hA⟩ := hM
  have hl := hA.len
  have hbd := hR.bd
  obtain ⟨A, c, rfl⟩ := hR.sh
  have hk := kind_len o
  have hbb : Below w.heap.size w w := Below.refl _ _
  refine calls_W (vs := [_]) Tryz.func27 rfl (by kernel_rfl) rfl ?_
  (repeat (first | with_reducible refine W.seq ?_ | with_reducible refine Ops.nil ?_ | with_reducible refine W.region ?_ | refine z_p (kk := ?_) | refine z_l (kk := ?_)))
  by_cases h0 : l.length = 0
  · refine W.condT rfl (by first | rfl | assumption | (simp only [bnf] <;> omega) | (simp only [*, bnf]; done) | fail) ?_
    (repeat (first | with_reducible refine W.seq ?_ | with_reducible refine Ops.nil ?_ | with_reducible refine W.region ?_ | refine z_p (kk := ?_)))
    refine W.fret rfl ⟨?_, rfl⟩
    rw [hk, if_pos (by omega)]; rfl
  · rw [if_neg (by omega)] at hk
    refine W.condF rfl (by first | rfl | assumption | (simp only [bnf] <;> omega) | (simp only [*, bnf]; done) | fail) ?_
    (repeat (first | with_reducible refine W.seq ?_ | with_reducible refine W.region ?_ | refine z_p (kk := ?_) | refine z_a (kk := ?_) | with_reducible refine W.skip ?_ | refine z_l (kk := ?_)))
    obtain ⟨a2, aM⟩ := hA.at_ (i := lenO o - 1) (by omega)
    rw [show ((l.length : Nat) : Int) - 1 = ((lenO o - 1 : Nat) : Int) by omega]
    (repeat (first | refine z_R0 (kk := fun _ _ => ?_)))
    obtain ⟨le, hRe, hAe⟩ := aM
    have hle := hAe.len
    obtain ⟨Ae, ce, hve⟩ := hRe.sh
    rw [hve]
    (repeat (first | with_reducible refine Ops.nil ?_ | refine z_p (kk := ?_) | refine z_l (kk := ?_)))
    by_cases h1 : le.length = 0
    · refine W.condT rfl (by first | rfl | assumption | (simp only [bnf] <;> omega) | (simp only [*, bnf]; done) | fail) ?_
      (repeat (first | with_reducible refine W.seq ?_ | with_reducible refine Ops.nil ?_ | with_reducible refine W.region ?_ | refine z_p (kk := ?_)))
      refine W.fret rfl ⟨?_, rfl⟩
      rw [hk, if_pos (by omega)]; rfl
    · refine W.condF rfl (by first | rfl | assumption | (simp only [bnf] <;> omega) | (simp only [*, bnf]; done) | fail) ?_
      (repeat (first | with_reducible refine W.seq ?_ | with_reducible refine Ops.nil ?_ | with_reducible refine W.region ?_ | refine z_p (kk := ?_) | with_reducible refine W.skip ?_))
      refine W.fret rfl ⟨?_, rfl⟩
      rw [hk, if_neg (by omega)]; rfl
set_option maxHeartbeats 4000000 in
theorem rmost_c : ∀ (n : Nat) {S' : Nat → Prop} {w : World} {v : Value} {o : Od}, szO o ≤ n → n ≤ 100000000 → OM S' w v o →
    Calls Tryz.prog 79 #[v] w (Ret fun r w' => r = .int .i64 (mostO o : Nat) ∧ Below w.heap.size w w') := by
  intro n
  induction n using Nat.strongRecOn with
  | _ n ih =>
  intro S' w v o hn hbig hM
  obtain ⟨l, hR, hA⟩ := hM
  have hl := hA.len
  have hls := len_le_sz o
  obtain ⟨A, c, rfl⟩ := hR.sh
  refine calls_W (vs := [_]) Tryz.func79 rfl (by kernel_rfl) rfl ?_
  (repeat (first | with_reducible refine W.seq ?_ | with_reducible refine Ops.nil ?_ | with_reducible refine W.region ?_ | refine z_p (kk := ?_) | with_reducible refine W.block ?_))
  refine W.loop (fun m ρ w' => ∃ (i acc : Nat), m = l.length - i ∧ i ≤ l.length ∧ Below w.heap.size w w' ∧ mostO o = max acc (mostO (dropO o i)) ∧ ρ = [(0, .slice A l.length c), (3, .int .i64 acc), (4, .int .i64 i)])
    ⟨_, _, ⟨0, 0, rfl, Nat.zero_le _, Below.refl _ _, by rw [dropO_zero]; omega, rfl⟩, (by repeat (first | exact trivial | refine And.intro rfl ?_))⟩ ?_
  rintro m ρ w1 ⟨i, acc, rfl, hi, hb1, hacc, rfl⟩
  (repeat (first | with_reducible refine W.seq ?_ | with_reducible refine Ops.nil ?_ | with_reducible refine W.region ?_ | refine z_p (kk := ?_) | refine z_l (kk := ?_)))
  (first | refine W.condD rfl (fun hc => ?_) (fun hc => ?_) | refine W.condE rfl (fun hc => ?_) (fun hc => ?_) | refine W.condN rfl (fun hc => ?_) (fun hc => ?_) | refine W.cond rfl (fun hc => ?_) (fun hc => ?_))
  · have hil : i < l.length := by omega
    obtain ⟨a2, aM⟩ := hA.at_ (i := i) (by omega)
    have hsz := nthE_sz (o := o) (i := i) (by omega)
    rw [dropO_cons (by omega)] at hacc
    simp only [mostO] at hacc
    have hR1 := hR.below hb1
    have hb11 : Below w1.heap.size w1 w1 := Below.refl _ _
    (repeat (first | with_reducible refine W.seq ?_ | with_reducible refine W.skip ?_ | with_reducible refine W.block ?_))
    refine W.ordA 99 [(0, 1), (1, 1), (2, 1), (3, 1), (4, 1), (5, 2), (6, 1), (7, 1), (8, 1), (9, 1), (10, 2), (11, 2), (12, 1), (13, 1)] rfl (by kernel_rfl) rfl (by kernel_rfl) (fun _ _ _ h => h) ?_
    (repeat (first | refine x_p (kk := ?_) | refine x_R0 (kk := fun _ _ => ?_) | refine x_R1 (kk := fun _ _ => ?_)))
    refine OrdA.call rfl rfl rfl rfl rfl rfl rfl (fun w' hw' => Calls.via hw' (ih _ (show szO (nthE o i) < n by omega) (Nat.le_refl _) (by omega) (aM.below (Below.via hb1 hw')))) ?_
    skip
    rw [a2]
    refine x_ev rfl (fun _ => EV.max3 rfl rfl rfl rfl) (kk := ?_)
    rw [show max (max (acc : Int) ((nthC o i : Nat) : Int)) ((mostO (nthE o i) : Nat) : Int) = ((max (max acc (nthC o i)) (mostO (nthE o i)) : Nat) : Int) by omega]
    (repeat (first | refine x_p (kk := ?_)))
    refine OrdA.nil (fun w4 hb4 => ?_)
    (repeat (first | with_reducible refine Ops.nil ?_ | with_reducible refine W.region ?_ | refine z_p (kk := ?_) | refine z_a (kk := ?_) | with_reducible refine W.endb ?_))
    exact W.endl ⟨_, _, ⟨⟨i + 1, max (max acc (nthC o i)) (mostO (nthE o i)), rfl, by omega, Below.via hb1 hb4, by omega, rfl⟩, by omega⟩, (by repeat (first | exact trivial | refine And.intro rfl ?_))⟩
  · have hil : i = l.length := by omega
    subst hil
    rw [hl, dropO_len] at hacc
    simp only [mostO] at hacc
    (repeat (first | with_reducible refine W.seq ?_ | with_reducible refine Ops.nil ?_ | with_reducible refine W.region ?_ | refine z_p (kk := ?_) | refine W.exit rfl ?_))
    refine W.fret rfl ⟨?_, hb1⟩
    rw [hacc, Nat.max_eq_left (Nat.zero_le _)]; rfl
theorem rFull_c {S' : Nat → Prop} {w : World} {v : Value} {o : Od} (hz : szO o ≤ 100000000) (hM : OM S' w v o) : Calls Tryz.prog 30 #[v] w (Ret fun r w' => r = .bool (bigO o) ∧ Below w.heap.size w w') := by
  refine calls_W (vs := [_]) Tryz.func30 rfl (by kernel_rfl) rfl ?_
  (repeat (first | with_reducible refine W.seq ?_ | with_reducible refine Ops.nil ?_ | with_reducible refine W.region ?_ | refine z_p (kk := ?_)))
  refine Ops.callS rfl rfl rfl rfl rfl (rSize_c _ (Nat.le_refl _) hz hM) ?_
  by_cases h : 60 < szO o
  · have hb : bigO o = true := decide_eq_true (.inl h)
    have f1 : decide (((szO o : Nat) : Int) > 60) = true := decide_eq_true (by omega)
    (repeat (first | with_reducible refine Ops.nil ?_ | refine z_p (kk := ?_) | refine z_n (kk := ?_) | refine z_g (kk := ?_)))
    refine W.fret rfl ⟨?_, Below.refl _ _⟩
    rw [hb, ← f1]
    rfl
  · have f1 : decide (((szO o : Nat) : Int) > 60) = false := decide_eq_false (by omega)
    (repeat (first | refine z_p (kk := ?_) | refine z_y (kk := ?_) | refine z_h (kk := ?_)))
    refine Ops.call rfl rfl rfl rfl rfl (rmost_c _ (Nat.le_refl _) hz hM) (fun r w1 hR => ?_)
    obtain ⟨rfl, hb1⟩ := hR
    (repeat (first | with_reducible refine Ops.nil ?_ | refine z_p (kk := ?_) | refine z_y (kk := ?_)))
    refine W.fret rfl ⟨?_, hb1⟩
    unfold bigO
    have : decide (((mostO o : Nat) : Int) > 1000) = decide (60 < szO o ∨ 1000 < mostO o) := decide_eq_decide.2 (by omega)
    rw [← this]
    rfl
end Go.Proofs.YtcmjlmnfdncajaaGreatDoor
namespace Go.Proofs.YtcmjlmnfdncajaaGreatDoor
open Go Go.RowKit Go.Proofs.YtcmjlmnfdncajaaGreatDoor.VW Go.Proofs.YtcmjlmnfdncajaaGreatDoor.TW
attribute [local irreducible] W Ops OrdA VW.Ord OrdX Wi OpsI OrdF
set_option maxHeartbeats 8000000 in
theorem rStep_c : ∀ (n : Nat) {S' : Nat → Prop} {w : World} {va : Value} {a : Od} {k : Nat}, szO a ≤ n → n ≤ 100000 → a ≠ .nil → k ≤ 100000 → mostO a ≤ 10000000 → (∀ i, S' i → i < w.heap.size) → OM S' w va a →
    Calls Tryz.prog 28 #[va, .int .i64 (k : Int)] w (Ret fun r w' => OM S' w' r (stepO a k) ∧ Below w.heap.size w w') := by
  intro n
  induction n using Nat.strongRecOn with
  | _ n ih =>
  intro S' w va a k hn hbig hne hk hmo hS hA
  obtain ⟨la, hRa, hAa⟩ := hA
  have hla := hAa.len
  have hlz := len_le_sz a
  have hl0 : 0 < lenO a := Nat.pos_of_ne_zero (fun h => hne (lenO_zero.1 h))
  obtain ⟨f1, f2⟩ := finE_at hne
  have hfs := finE_sz hne
  have hst := step_init k hne
  obtain ⟨a2, aM⟩ := hAa.at_ (i := lenO a - 1) (by omega)
  have hmn := nth_most (o := a) (i := lenO a - 1) (by omega)
  rw [f1, f2] at hmn
  rw [f1] at aM
  rw [f2] at a2
  have ha1 := aM.one
  have hcap : la.length ≤ la.length := Nat.le_refl _
  obtain ⟨Aa, ca, he, hcc, _⟩ := id hRa
  subst he
  have hil := initO_len a
  refine calls_W (vs := [_, _]) Tryz.func28 rfl (by kernel_rfl) rfl ?_
  (repeat (first | with_reducible refine W.seq ?_ | with_reducible refine Ops.nil ?_ | with_reducible refine W.region ?_ | refine z_p (kk := ?_) | refine z_a (kk := ?_) | refine z_l (kk := ?_)))
  rw [show ((la.length : Nat) : Int) - 1 = ((lenO a - 1 : Nat) : Int) by omega]
  (repeat (first | refine z_R2 (kk := fun _ => ?_)))
  rw [a2]
  generalize hva : (la.getD (lenO a - 1) default).1 = ve at *
  refine Ops.alloc rfl rfl rfl rfl (fun w1 b5 hM1 => ?_)
  refine Ops.stN (vs := [ve, .int .i64 (finC a : Nat)]) (cs := [.slice none 0 0, .int .i64 0]) rfl rfl rfl rfl rfl rfl (by intro v hv; simp at hv; rcases hv with rfl | rfl; exact ha1; rfl) rfl hM1.at_ (fun w2 hu2 => ?_)
  have B2 : Blk w2 b5 #[ve, .int .i64 (finC a : Nat)] 100 := hu2.blk
  have e1 := hM1.r_eq
  have hb02 : Below w.heap.size w w2 := Below.put (Mk.bel hM1) hu2.kp (fun i e => by omega)
  (repeat (first | with_reducible refine W.seq ?_ | with_reducible refine Ops.nil ?_ | with_reducible refine W.region ?_ | refine z_p (kk := ?_) | refine z_a (kk := ?_) | refine z_l (kk := ?_)))
  rw [show ((la.length : Nat) : Int) - 1 = ((lenO a - 1 : Nat) : Int) by omega]
  refine z_ev (EV.slH rfl rfl rfl rfl rfl (by omega) (by omega)) (kk := ?_)
  rw [Int.toNat_natCast]
  have hRt := hRa.take (h := lenO a - 1) (by omega)
  have hOAi := OA_init hAa
  rw [hla] at hOAi
  have hti : (la.take (lenO a - 1)).length = lenO a - 1 := by rw [List.length_take]; omega
  have hti2 := hOAi.len
  refine Ops.appP rfl rfl rfl rfl rfl rfl rfl rfl rfl (PR.nil (N := w.heap.size) hb02.size).2 (hRt.below hb02) (OA_one hOAi) (by simp only [List.length_nil]; omega) (fun v6 w3 hO3 k3 hn3 => ?_)
  have hP3' : PR w.heap.size w3 v6 (la.take (lenO a - 1)) := pr_put (PR.nil (N := w.heap.size) hb02.size) (tr_size hb02.size) hO3 k3.size
  have hb23 : Below w2.heap.size w2 w3 := k3.below (Nat.le_refl _) (fun i _ e => by cases e)
  have hb03 := Below.via hb02 hb23
  have B3 := B2.kp (kpF hb23) (fun e => e)
  have hge6 : ∀ i, v6.ownBlock = some i → w2.heap.size ≤ i := fun i hi => by rcases hn3 i hi with q | q; cases q; exact q
  have hb5 := B2.lt
  clear B2 hu2 hM1
  refine z_p (kk := ?_)
  refine Ops.nil ?_
  refine W.seq ?_
  refine W.cut (fun ρ w4 => ∃ (v : Value) (l : List (Value × Nat)) (o : Od), ρ = [(1, .int .i64 (k : Int)), (5, .pointer (some ⟨b5, 0, none⟩)), (6, v)] ∧ PR w.heap.size w4 v l ∧ OA S' w o l ∧ (∀ i, v.ownBlock = some i → w2.heap.size ≤ i) ∧ Below w.heap.size w w4 ∧ Blk w4 b5 #[ve, .int .i64 (finC a : Nat)] 100 ∧ (∀ t, appO o t = appO (initO a) (cutS (finE a) (finC a) t)) ∧ lenO o ≤ lenO a) ?_ ?_
  · (repeat (first | with_reducible refine W.seq ?_ | with_reducible refine Ops.nil ?_ | with_reducible refine W.region ?_ | refine z_p (kk := ?_) | refine z_f (kk := ?_) | refine z_d (kk := ?_)))
    by_cases hc : 1 < finC a
    · refine W.condT rfl (by first | rfl | assumption | (simp only [bnf] <;> omega) | (simp only [*, bnf]; done) | fail) ?_
      (repeat (first | with_reducible refine W.region ?_ | refine z_p (kk := ?_) | refine z_a (kk := ?_) | refine z_f (kk := ?_) | refine z_d (kk := ?_)))
      rw [show ((finC a : Nat) : Int) - 1 = ((finC a - 1 : Nat) : Int) by omega]
      refine Ops.bld2 rfl rfl rfl rfl rfl rfl rfl ha1 rfl ?_
      refine Ops.pushP (fa := pA) (fb := pB) (z := (ve, finC a - 1)) rfl rfl rfl rfl rfl rfl rfl rfl rfl rfl rfl (fun _ => rfl) ha1 rfl hP3'.2 (by omega) (fun lv' p w4 hO4 k4 hn4 => ?_)
      have hP4 := pr_put hP3' (tr_size hP3'.1) hO4 k4.size
      have hls : lenO (snocO (initO a) (finE a) (finC a - 1)) = lenO (initO a) + 1 := by unfold snocO; rw [lenO_app]; rfl
      (repeat (first | with_reducible refine Ops.nil ?_ | refine z_p (kk := ?_)))
      exact W.endl ⟨_, ⟨lv', _, snocO (initO a) (finE a) (finC a - 1), rfl, hP4, OA_snoc aM hOAi, fun i hi => by rcases hn4 i hi with q | q; exact hge6 i q; have := hb23.size; omega, Below.put hb03 k4 (fun i hi => pr_ge hP3' i hi), B3.kp k4 (fun q => by have := hge6 _ q; omega), fun t => by rw [appO_snoc]; unfold cutS; rw [if_pos hc], by omega⟩, (by repeat (first | exact trivial | refine And.intro rfl ?_))⟩
    · refine W.condF rfl (by first | rfl | assumption | (simp only [bnf] <;> omega) | (simp only [*, bnf]; done) | fail) ?_
      (repeat (first | with_reducible refine W.skip ?_))
      exact W.endl ⟨_, ⟨v6, _, initO a, rfl, hP3', hOAi, hge6, hb03, B3, fun t => by unfold cutS; rw [if_neg hc], by omega⟩, (by repeat (first | exact trivial | refine And.intro rfl ?_))⟩
  · clear hP3' hb23 B3 hge6 hb03 hOAi hti hti2
    rintro ρ w4 ⟨v, l, o, rfl, hP4, hOA, hge, hb04, B4, heq, hlo⟩
    have hlen := hOA.len
    have hP4s := hP4.1
    have hb44 : Below w4.heap.size w4 w4 := Below.refl _ _
    rw [← heq] at hst
    refine W.seq ?_
    refine W.cut (fun ρ w6 => ∃ (v : Value) (l : List (Value × Nat)) (o : Od), ρ = [(6, v)] ∧ PR w.heap.size w6 v l ∧ OA S' w6 o l ∧ o = stepO a k ∧ Below w.heap.size w w6 ∧ lenO o ≤ 1000000) ?_ ?_
    · (repeat (first | with_reducible refine W.seq ?_ | with_reducible refine W.region ?_ | refine z_f (kk := ?_) | refine z_d (kk := ?_)))
      refine Ops.callS rfl rfl rfl rfl rfl (rKind_c (aM.below hb04)) ?_
      (repeat (first | with_reducible refine W.seq ?_ | with_reducible refine Ops.nil ?_ | with_reducible refine W.region ?_ | refine z_p (kk := ?_) | with_reducible refine W.block ?_))
      have hkl := kind_lt (finE a)
      -- the step of the exponent
      have hnn : kindO (finE a) ≠ 0 → finE a ≠ .nil := fun h e => h (kind_zero.2 e)
      have hstep : ∀ k : Nat, k ≤ 100000 → kindO (finE a) ≠ 0 → Calls Tryz.prog 28 #[ve, .int .i64 (k : Int)] w4 (Ret fun r w' => OM (fun i => S' i ∨ v.ownBlock = some i) w' r (stepO (finE a) k) ∧ Below w4.heap.size w4 w') := fun k hk h =>
        ih _ (show szO (finE a) < n by omega) (Nat.le_refl _) (by omega) (hnn h) hk (by omega) (fun i hi => by
          rcases hi with hi | hi
          · have := hS i hi; omega
          · exact (hP4.2.own.lt i hi).2) ((aM.more (S' := fun i => S' i ∨ v.ownBlock = some i) (fun i hi => by
          rcases hi with hi | hi
          · exact .inl hi
          · exact .inr (pr_ge hP4 i hi))).below hb04)
      by_cases h1 : kindO (finE a) = 1
      · have hcs := hstep 0 (by omega) (by omega)
        rw [step_succ 0 k h1] at hcs
        rw [h1] at hst ⊢
        refine W.condT rfl (by first | rfl | assumption | (simp only [bnf] <;> omega) | (simp only [*, bnf]; done) | fail) ?_
        (repeat (first | with_reducible refine W.seq ?_ | with_reducible refine Ops.nil ?_ | with_reducible refine W.region ?_ | refine z_p (kk := ?_)))
        by_cases hk0 : 0 < k
        · have htl : tlS 1 (stepO (finE a) k) k = .cons (stepO (finE a) k) k .nil := by simp [tlS, hk0]
          rw [htl] at hst
          refine W.condT rfl (by first | rfl | assumption | (simp only [bnf] <;> omega) | (simp only [*, bnf]; done) | fail) ?_
          (repeat (first | with_reducible refine W.region ?_ | refine z_p (kk := ?_) | refine z_f (kk := ?_) | refine z_d (kk := ?_)))
          refine Ops.call rfl rfl rfl rfl rfl hcs (fun vs w5 hR => ?_)
          obtain ⟨hM5, hb45⟩ := hR
          have hvs := hM5.one
          have hP5 := pr_kp hP4 (kpF hb45) (fun _ _ e => e)
          have hb05 := Below.via hb04 hb45
          (repeat (first | refine z_p (kk := ?_)))
          refine Ops.bld2 rfl rfl rfl rfl rfl rfl rfl hvs rfl ?_
          refine Ops.pushP (fa := pA) (fb := pB) (z := (vs, k)) rfl rfl rfl rfl rfl rfl rfl rfl rfl rfl rfl (fun _ => rfl) hvs rfl hP5.2 (by omega) (fun lv' p w6 hO6 k6 hn6 => ?_)
          have hP6 := pr_put hP5 (tr_size hP5.1) hO6 k6.size
          have hb06 := Below.put hb05 k6 (fun i hi => pr_ge hP5 i hi)
          have hM6 := (hM5.kp k6 (fun i hi => .inr hi)).more (S' := S') (fun i hi => .inl (.inl hi))
          have hls : lenO (snocO o (stepO (finE a) k) k) = lenO o + 1 := by unfold snocO; rw [lenO_app]; rfl
          (repeat (first | with_reducible refine Ops.nil ?_ | refine z_p (kk := ?_) | with_reducible refine W.endb ?_))
          exact W.endl ⟨_, ⟨lv', _, snocO o (stepO (finE a) k) k, rfl, hP6, OA_snoc hM6 (hOA.kp (kpF hb06) (fun _ e => e.elim)), hst.symm, hb06, by omega⟩, (by repeat (first | exact trivial | refine And.intro rfl ?_))⟩
        · have htl : tlS 1 (stepO (finE a) k) k = .nil := by simp [tlS, hk0]
          rw [htl, appO_nil] at hst
          refine W.condF rfl (by first | rfl | assumption | (simp only [bnf] <;> omega) | (simp only [*, bnf]; done) | fail) ?_
          (repeat (first | with_reducible refine W.skip ?_ | with_reducible refine W.endb ?_))
          exact W.endl ⟨_, ⟨v, l, o, rfl, hP4, hOA.kp (kpF hb04) (fun _ e => e.elim), hst.symm, hb04, by omega⟩, (by repeat (first | exact trivial | refine And.intro rfl ?_))⟩
      · by_cases h2 : kindO (finE a) = 2
        · rw [h2] at hst ⊢
          have hcs := hstep k hk (by omega)
          have htl : tlS 2 (stepO (finE a) k) k = .cons (stepO (finE a) k) 1 .nil := by simp [tlS]
          rw [htl] at hst
          refine W.condF rfl (by first | rfl | assumption | (simp only [bnf] <;> omega) | (simp only [*, bnf]; done) | fail) ?_
          (repeat (first | with_reducible refine W.seq ?_ | with_reducible refine Ops.nil ?_ | with_reducible refine W.region ?_ | refine z_p (kk := ?_)))
          refine W.condT rfl (by first | rfl | assumption | (simp only [bnf] <;> omega) | (simp only [*, bnf]; done) | fail) ?_
          (repeat (first | with_reducible refine W.region ?_ | refine z_p (kk := ?_) | refine z_f (kk := ?_) | refine z_d (kk := ?_)))
          refine Ops.call rfl rfl rfl rfl rfl hcs (fun vs w5 hR => ?_)
          obtain ⟨hM5, hb45⟩ := hR
          have hvs := hM5.one
          have hP5 := pr_kp hP4 (kpF hb45) (fun _ _ e => e)
          have hb05 := Below.via hb04 hb45
          skip
          refine Ops.bld2 rfl rfl rfl rfl rfl rfl rfl hvs rfl ?_
          refine Ops.pushP (fa := pA) (fb := pB) (z := (vs, 1)) rfl rfl rfl rfl rfl rfl rfl rfl rfl rfl rfl (fun _ => rfl) hvs rfl hP5.2 (by omega) (fun lv' p w6 hO6 k6 hn6 => ?_)
          have hP6 := pr_put hP5 (tr_size hP5.1) hO6 k6.size
          have hb06 := Below.put hb05 k6 (fun i hi => pr_ge hP5 i hi)
          have hM6 := (hM5.kp k6 (fun i hi => .inr hi)).more (S' := S') (fun i hi => .inl (.inl hi))
          have hls : lenO (snocO o (stepO (finE a) k) 1) = lenO o + 1 := by unfold snocO; rw [lenO_app]; rfl
          (repeat (first | with_reducible refine Ops.nil ?_ | refine z_p (kk := ?_) | with_reducible refine W.endb ?_))
          exact W.endl ⟨_, ⟨lv', _, snocO o (stepO (finE a) k) 1, rfl, hP6, OA_snoc hM6 (hOA.kp (kpF hb06) (fun _ e => e.elim)), hst.symm, hb06, by omega⟩, (by repeat (first | exact trivial | refine And.intro rfl ?_))⟩
        · have h0 : kindO (finE a) = 0 := by omega
          rw [h0] at hst ⊢
          have htl : tlS 0 (stepO (finE a) k) k = .nil := by simp [tlS]
          rw [htl, appO_nil] at hst
          refine W.condF rfl (by first | rfl | assumption | (simp only [bnf] <;> omega) | (simp only [*, bnf]; done) | fail) ?_
          (repeat (first | with_reducible refine W.seq ?_ | with_reducible refine Ops.nil ?_ | with_reducible refine W.region ?_ | refine z_p (kk := ?_)))
          refine W.condF rfl (by first | rfl | assumption | (simp only [bnf] <;> omega) | (simp only [*, bnf]; done) | fail) ?_
          (repeat (first | with_reducible refine W.skip ?_ | with_reducible refine W.endb ?_))
          exact W.endl ⟨_, ⟨v, l, o, rfl, hP4, hOA.kp (kpF hb04) (fun _ e => e.elim), hst.symm, hb04, by omega⟩, (by repeat (first | exact trivial | refine And.intro rfl ?_))⟩
    · rintro ρ w6 ⟨v7, l7, o7, rfl, hP7, hOA7, rfl, hb06, hlo7⟩
      (repeat (first | with_reducible refine W.seq ?_ | with_reducible refine Ops.nil ?_ | with_reducible refine W.region ?_ | refine z_p (kk := ?_)))
      exact W.fret rfl ⟨pr_OM hP7 hS hOA7 (by omega), hb06⟩
end Go.Proofs.YtcmjlmnfdncajaaGreatDoor
