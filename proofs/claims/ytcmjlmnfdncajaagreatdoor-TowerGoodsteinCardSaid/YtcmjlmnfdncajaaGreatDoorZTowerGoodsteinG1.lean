/- A part of the walk: what this seat's statements share. -/
import Derived.Test.YtcmjlmnfdncajaaGreatDoorZG9
import Derived.Test.YtcmjlmnfdncajaaGreatDoorZG10
set_option linter.unusedVariables false
set_option linter.unusedSimpArgs false
set_option linter.unusedSectionVars false
/- Plain: what Goodstein's list is. -/
namespace Go.Proofs.YtcmjlmnfdncajaaGreatDoor.TW
structure GoodS (r b m : Nat) (ns : List Nat) (os : List Od) : Prop where
  lo : os.length = ns.length
  pos : 1 ≤ ns.length
  le : ns.length ≤ r + 1
  hd : ns.getD 0 0 = m
  fin : ns.length ≤ r → ns.getD (ns.length - 1) 0 = 0
  od : ∀ i, i < ns.length → os.getD i .nil = lif (b + i) (ns.getD i 0) ∧ bigT (lif (b + i) (ns.getD i 0)) = false
  nxt : ∀ i, i + 1 < ns.length → ns.getD i 0 ≠ 0 ∧ bmp (b + i) (ns.getD i 0) ≤ 1152921504606846977 ∧ ns.getD (i + 1) 0 = bmp (b + i) (ns.getD i 0) - 1
theorem goodL_spec : ∀ (r b m : Nat) {ns : List Nat} {os : List Od}, goodL r b m = some (ns, os) → GoodS r b m ns os
  | 0, b, m, ns, os, h => by
    by_cases hb : bigT (lif b m) = true
    · rw [goodL_big hb] at h; cases h
    · have hb' : bigT (lif b m) = false := by simpa using hb
      rw [goodL_end hb' (.inr rfl)] at h
      simp only [Option.some.injEq, Prod.mk.injEq] at h
      obtain ⟨rfl, rfl⟩ := h
      exact ⟨rfl, Nat.le_refl _, Nat.le_refl _, rfl, fun h => by simp at h, fun i hi => by
        have : i = 0 := by simpa using hi
        subst this
        exact ⟨rfl, hb'⟩, fun i hi => by simp at hi⟩
  | r + 1, b, m, ns, os, h => by
    by_cases hb : bigT (lif b m) = true
    · rw [goodL_big hb] at h; cases h
    · have hb' : bigT (lif b m) = false := by simpa using hb
      by_cases hm : m = 0
      · rw [goodL_end hb' (.inl hm)] at h
        simp only [Option.some.injEq, Prod.mk.injEq] at h
        obtain ⟨rfl, rfl⟩ := h
        exact ⟨rfl, Nat.le_refl _, by simp, rfl, fun _ => hm, fun i hi => by
          have : i = 0 := by simpa using hi
          subst this
          exact ⟨rfl, hb'⟩, fun i hi => by simp at hi⟩
      · by_cases h3 : bmp b m ≤ 1152921504606846977
        · rw [goodL_more hb' hm h3] at h
          cases hx : goodL r (b + 1) (bmp b m - 1) with
          | none => rw [hx] at h; cases h
          | some q =>
            rw [hx] at h
            simp only [Option.map_some, Option.some.injEq, Prod.mk.injEq] at h
            obtain ⟨rfl, rfl⟩ := h
            obtain ⟨q1, q2⟩ := q
            have ih := goodL_spec r (b + 1) (bmp b m - 1) hx
            refine ⟨by simp [ih.lo], by simp, by simp; exact ih.le, rfl, fun h => ?_, fun i hi => ?_, fun i hi => ?_⟩
            · have h1 := ih.fin (by simpa using h)
              have h2 := ih.pos
              simp only [List.length_cons, Nat.add_sub_cancel]
              rw [show q1.length = (q1.length - 1) + 1 by omega, List.getD_cons_succ]
              exact h1
            · cases i with
              | zero => exact ⟨rfl, hb'⟩
              | succ i =>
                have := ih.od i (by simpa using hi)
                simp only [List.getD_cons_succ]
                rw [show b + (i + 1) = b + 1 + i by omega]
                exact this
            · cases i with
              | zero =>
                simp only [List.getD_cons_succ, List.getD_cons_zero]
                exact ⟨hm, h3, ih.hd⟩
              | succ i =>
                have := ih.nxt i (by simpa using hi)
                simp only [List.getD_cons_succ]
                rw [show b + (i + 1) = b + 1 + i by omega]
                exact this
        · rw [goodL_full hm h3] at h; cases h
theorem small_of : ∀ {o : Od}, NF o → mostO o ≤ 1000 → Small o
  | .nil, _, _ => trivial
  | .cons e c r, h, hm => by
    obtain ⟨h1, h2, h3, h4⟩ := h
    simp only [mostO] at hm
    exact ⟨small_of h1 (by omega), ⟨h2, by omega⟩, small_of h3 (by omega)⟩
theorem rdA_lif {b m : Nat} (hb : 2 ≤ b) (hb2 : b ≤ 1000) (h : bigT (lif b m) = false) : rdA (txO (lif b m)) = some (lif b m) := by
  have h1 := lif_NF hb m m (Nat.le_refl _)
  have h2 := lif_most hb m m (Nat.le_refl _)
  have h3 := of_decide_eq_false h
  exact rdA_tx h1 (small_of h1 (by omega)) (by omega)
/-- The ordinals descend. -/
theorem good_down {b n : Nat} (hb : 2 ≤ b) (hn : n ≠ 0) : cmpO (lif (b + 1) (bmp b n - 1)) (lif b n) = -1 := by
  have h1 := le_bmp hb n
  have h2 := lif_mono (b := b + 1) (by omega) (bmp b n) (bmp b n - 1) (bmp b n) (Nat.le_refl _) (by omega)
  rw [lif_bmp hb n n (Nat.le_refl _)] at h2
  exact h2
end Go.Proofs.YtcmjlmnfdncajaaGreatDoor.TW
/- Lists of strings, read. -/
namespace Go.Proofs.YtcmjlmnfdncajaaGreatDoor.VW
open Go Go.RowKit
abbrev SlT (w : World) (v : Value) (xs : List (List UInt8)) : Prop := Sl S [] w v xs
section
variable {P : Program} [hT : Tab P] {n : Nat} {ds : List Deferred} {Φ : Post} {k : List It} {ρ : E} {w : World} {all : Array Oper} {l : List Oper} {md : Option (List Oper)} {s : Nat} {F : World → Prop} {π : List (Nat × Nat)} {L : List Bool}
theorem z_TJ {o1 o2 : Oper} {d1 d2 t t' e : Nat} {x y : Operand} {v : Value} {i : Nat} {xs : List (List UInt8)} {w0 : World} {c1 c2 : Bool} (ho : o1.op = .indexAddr t x y := by exact rfl) (hd1 : o1.dst = some d1 := by exact rfl) (hg1 : gdB all ρ o1.guard = some c1 := by exact rfl) (hc1 : c1 = true := by exact rfl) (ho2 : o2.op = .load t' (.tmp d1) := by exact rfl) (hd2 : o2.dst = some d2 := by exact rfl) (hg2 : ∀ p, gdB all ((d1, .pointer p) :: ρ) o2.guard = some c2 := by exact fun _ => rfl) (hc2 : c2 = true := by exact rfl) (ht : tyD P t = some (.slice e) := by exact rfl) (hs : tyS P e = some 1 := by exact rfl) (ha : tyAgg P t' = some false := by exact rfl) (hx : ev ρ x = some v := by exact rfl) (hy : ev ρ y = some (.int .i64 (i : Int)) := by exact rfl) (hsl : SlT w0 v xs := by assumption) (hb : Below w0.heap.size w0 w := by first | assumption | exact Below.refl _ _) (h1 : i < xs.length := by omega) (kk : ∀ p, Ops md P n ds all k Φ l ((d2, S (xs.getD i [])) :: (d1, p) :: ρ) w) : Ops md P n ds all k Φ (o1 :: o2 :: l) ρ w := Ops.rdBn ho hd1 hg1 hc1 ho2 hd2 hg2 hc2 ht hs ha hx hy hsl hb h1 kk
theorem z_TL {o1 o2 : Oper} {d1 d2 t t' e : Nat} {x y : Operand} {v : Value} {i : Int} {xs : List (List UInt8)} {w0 : World} {c1 c2 : Bool} (ho : o1.op = .indexAddr t x y := by exact rfl) (hd1 : o1.dst = some d1 := by exact rfl) (hg1 : gdB all ρ o1.guard = some c1 := by exact rfl) (hc1 : c1 = true := by exact rfl) (ho2 : o2.op = .load t' (.tmp d1) := by exact rfl) (hd2 : o2.dst = some d2 := by exact rfl) (hg2 : ∀ p, gdB all ((d1, .pointer p) :: ρ) o2.guard = some c2 := by exact fun _ => rfl) (hc2 : c2 = true := by exact rfl) (ht : tyD P t = some (.slice e) := by exact rfl) (hs : tyS P e = some 1 := by exact rfl) (ha : tyAgg P t' = some false := by exact rfl) (hx : ev ρ x = some v := by exact rfl) (hy : ev ρ y = some (.int .i64 i) := by exact rfl) (hsl : SlT w0 v xs := by assumption) (hb : Below w0.heap.size w0 w := by first | assumption | exact Below.refl _ _) (h0 : 0 ≤ i := by omega) (h1 : i < xs.length := by omega) (kk : ∀ p, Ops md P n ds all k Φ l ((d2, S (xs.getD i.toNat [])) :: (d1, p) :: ρ) w) : Ops md P n ds all k Φ (o1 :: o2 :: l) ρ w := Ops.rdB ho hd1 hg1 hc1 ho2 hd2 hg2 hc2 ht hs ha hx hy hsl hb h0 h1 kk
theorem x_TJ {i1 i2 d1 d2 t t' e : Nat} {o1 o2 : Oper} {x y : Operand} {v : Value} {i : Nat} {xs : List (List UInt8)} {w0 : World} {c1 c2 : Bool} (h1 : all[i1]? = some o1 := by exact rfl) (ho : o1.op = .indexAddr t x y := by exact rfl) (hd1 : o1.dst = some d1 := by exact rfl) (hg1 : gdB all ρ o1.guard = some c1 := by exact rfl) (hc1 : c1 = true := by exact rfl) (h2 : all[i2]? = some o2 := by exact rfl) (ho2 : o2.op = .load t' (.tmp d1) := by exact rfl) (hd2 : o2.dst = some d2 := by exact rfl) (hg2 : ∀ p, gdB all ((d1, .pointer p) :: ρ) o2.guard = some c2 := by exact fun _ => rfl) (hc2 : c2 = true := by exact rfl) (ht : tyD P t = some (.slice e) := by exact rfl) (hs : tyS P e = some 1 := by exact rfl) (ha : tyAgg P t' = some false := by exact rfl) (hx : ev ρ x = some v := by exact rfl) (hy : ev ρ y = some (.int .i64 (i : Int)) := by exact rfl) (hsl : SlT w0 v xs := by assumption) (hF : ∀ w, F w → Below w0.heap.size w0 w := by first | exact fun _ h => h | (intro _ h; exact Below.via (by assumption) h)) (hi : i < xs.length := by omega) (kk : ∀ p, OrdA P n ds all k Φ s F π ((L.set i1 true).set i2 true) ((d2, S (xs.getD i [])) :: (d1, p) :: ρ)) : OrdA P n ds all k Φ s F ((i1, 1) :: (i2, 2) :: π) L ρ := OrdA.rdSn h1 ho hd1 hg1 hc1 h2 ho2 hd2 hg2 hc2 ht hs ha hx hy hsl hF hi kk
theorem x_TL {i1 i2 d1 d2 t t' e : Nat} {o1 o2 : Oper} {x y : Operand} {v : Value} {i : Int} {xs : List (List UInt8)} {w0 : World} {c1 c2 : Bool} (h1 : all[i1]? = some o1 := by exact rfl) (ho : o1.op = .indexAddr t x y := by exact rfl) (hd1 : o1.dst = some d1 := by exact rfl) (hg1 : gdB all ρ o1.guard = some c1 := by exact rfl) (hc1 : c1 = true := by exact rfl) (h2 : all[i2]? = some o2 := by exact rfl) (ho2 : o2.op = .load t' (.tmp d1) := by exact rfl) (hd2 : o2.dst = some d2 := by exact rfl) (hg2 : ∀ p, gdB all ((d1, .pointer p) :: ρ) o2.guard = some c2 := by exact fun _ => rfl) (hc2 : c2 = true := by exact rfl) (ht : tyD P t = some (.slice e) := by exact rfl) (hs : tyS P e = some 1 := by exact rfl) (ha : tyAgg P t' = some false := by exact rfl) (hx : ev ρ x = some v := by exact rfl) (hy : ev ρ y = some (.int .i64 i) := by exact rfl) (hsl : SlT w0 v xs := by assumption) (hF : ∀ w, F w → Below w0.heap.size w0 w := by first | exact fun _ h => h | (intro _ h; exact Below.via (by assumption) h)) (h0 : 0 ≤ i := by omega) (hi : i < xs.length := by omega) (kk : ∀ p, OrdA P n ds all k Φ s F π ((L.set i1 true).set i2 true) ((d2, S (xs.getD i.toNat [])) :: (d1, p) :: ρ)) : OrdA P n ds all k Φ s F ((i1, 1) :: (i2, 2) :: π) L ρ := OrdA.rdS h1 ho hd1 hg1 hc1 h2 ho2 hd2 hg2 hc2 ht hs ha hx hy hsl hF h0 hi kk
end
end Go.Proofs.YtcmjlmnfdncajaaGreatDoor.VW
namespace Go.Proofs.YtcmjlmnfdncajaaGreatDoor
open Go Go.RowKit Go.Proofs.YtcmjlmnfdncajaaGreatDoor.VW Go.Proofs.YtcmjlmnfdncajaaGreatDoor.TW
attribute [local irreducible] W Ops OrdA VW.Ord OrdX Wi OpsI OrdF
theorem full_c (e : Int) (w : World) : Calls Tryz.prog 22 #[.int .i64 e] w (Ret fun r w' => r = .bool (decide (e = 5)) ∧ w' = w) := by
  refine calls_W (vs := [_]) Tryz.func22 rfl (by kernel_rfl) rfl ?_
  (repeat (first | with_reducible refine W.seq ?_ | with_reducible refine Ops.nil ?_ | with_reducible refine W.region ?_ | refine z_p (kk := ?_)))
  refine W.fret rfl ⟨?_, rfl⟩
  show Value.bool _ = _
  by_cases h : e = 5 <;> simp [h]
theorem modI_nat {a n : Nat} (h : a < 18446744073709551616) : modI (a : Int) (n : Int) = ((a % n : Nat) : Int) := by
  unfold modI
  rw [show (a : Int) % 18446744073709551616 = (a : Int) by omega]
  exact (Int.natCast_emod a n).symm
theorem modI_ex (x : Int) {n : Int} (h : 0 < n) : ∃ k : Nat, modI x n = (k : Int) ∧ (k : Int) < n := by
  have := modI_bd x h
  exact ⟨(modI x n).toNat, by omega, by omega⟩
theorem bumR_small {x b : Nat} (hb : 2 ≤ b) (hb2 : b ≤ 1000) (hx : x < b) : bumR (x : Int) (b : Int) = .ok (x, numO x) := by
  have h1 : bmp b x = x := bmp_small hb hx
  have h2 : lif b x = numO x := lif_small hb hx
  have h3 : bigT (numO x) = false := by
    unfold numO ptO
    split
    · exact decide_eq_false (by simp only [topO, szO]; omega)
    · rfl
  unfold bumR
  rw [if_pos (by omega), Int.toNat_natCast, Int.toNat_natCast, h1, h2, if_pos ⟨by omega, h3⟩]
theorem cmpR_ok {a b : Od} (ha : rdA (txO a) = some a) (hb : rdA (txO b) = some b) : cmpR (txO a) (txO b) = .ok (cmpO a b) := by
  unfold cmpR
  rw [ha, hb]
theorem txO_le {b m : Nat} (hb : 2 ≤ b) (hb2 : b ≤ 1000) (h : bigT (lif b m) = false) : (txO (lif b m)).length ≤ 4294967295 := by
  have h2 := lif_most hb m m (Nat.le_refl _)
  have h3 := of_decide_eq_false h
  have := txO_len (o := lif b m) (by omega)
  omega
theorem intL_get (l : List Nat) (i : Nat) : (intL l).getD i 0 = ((l.getD i 0 : Nat) : Int) := by
  unfold intL
  simp only [List.getD_eq_getElem?_getD, List.getElem?_map]
  cases l[i]? <;> rfl
theorem txL_get {l : List Od} {i : Nat} (h : i < l.length) : (l.map txO).getD i [] = txO (l.getD i .nil) := by
  simp [List.getD_eq_getElem?_getD, h]
set_option maxHeartbeats 8000000 in
theorem goodLaw_c {w : World} {m steps base : Int} (hT : Tbl w) : Calls Tryz.prog 9 #[.int .i64 m, .int .i64 steps, .int .i64 base] w (Ret fun r w' => r = .bool true ∧ Below w.heap.size w w') := by
  refine calls_W (vs := [_, _, _]) Tryz.func9 rfl (by kernel_rfl) rfl ?_
  obtain ⟨m0, hm, hm1⟩ := modI_ex m (n := 1000001) (by omega)
  obtain ⟨s0, hs, hs1⟩ := modI_ex steps (n := 51) (by omega)
  obtain ⟨c0, hc, hc1⟩ := modI_ex base (n := 999) (by omega)
  (repeat (first | with_reducible refine W.seq ?_ | with_reducible refine Ops.nil ?_ | with_reducible refine W.region ?_ | refine z_p (kk := ?_)))
  refine Ops.callS rfl rfl rfl rfl rfl (mod_c m 1000001 _ (by omega) (by omega)) ?_
  (repeat (first | refine z_p (kk := ?_)))
  refine Ops.callS rfl rfl rfl rfl rfl (mod_c steps 51 _ (by omega) (by omega)) ?_
  (repeat (first | with_reducible refine W.seq ?_ | with_reducible refine Ops.nil ?_ | with_reducible refine W.region ?_ | refine z_p (kk := ?_)))
  refine Ops.callS rfl rfl rfl rfl rfl (mod_c base 999 _ (by omega) (by omega)) ?_
  rw [hm, hs, hc]
  (repeat (first | with_reducible refine W.seq ?_ | with_reducible refine Ops.nil ?_ | with_reducible refine W.region ?_ | refine z_p (kk := ?_) | refine z_a (kk := ?_)))
  rw [show (2 : Int) + (c0 : Int) = ((c0 + 2 : Nat) : Int) by omega]
  generalize hb0 : c0 + 2 = b0 at *
  have hb2 : 2 ≤ b0 := by omega
  have hb3 : b0 ≤ 1000 := by omega
  refine Ops.call rfl rfl rfl rfl rfl (Goodstein_c (m := (m0 : Int)) (steps := (s0 : Int)) hT) (fun r w1 hR => ?_)
  obtain ⟨v1, v2, rfl, hG1, hG2, hne, hb1⟩ := hR
  (repeat (first | with_reducible refine W.seq ?_ | with_reducible refine Ops.nil ?_ | with_reducible refine W.region ?_ | refine z_p (kk := ?_)))
  refine Ops.callS rfl rfl rfl rfl rfl (mod_c _ _ _ (by omega) (by omega)) ?_
  rw [modI_nat (by omega)]
  have hx := Nat.mod_lt m0 (show b0 > 0 by omega)
  have hB := bumR_small hb2 hb3 hx
  have hN : numR ((m0 % b0 : Nat) : Int) = .ok (m0 % b0) := by unfold numR; rw [if_pos (by omega), Int.toNat_natCast]
  generalize hxm : m0 % b0 = x0 at *
  (repeat (first | refine z_p (kk := ?_)))
  refine Ops.call rfl rfl rfl rfl rfl (Bumped_c (hT.below hb1)) (fun r w2 hR => ?_)
  obtain ⟨rfl, hb12⟩ := hR
  have hb02 := Below.via hb1 hb12
  rw [hB, show (outN (.ok (x0, numO x0))).1 = (x0 : Int) from rfl, show (outN (.ok (x0, numO x0))).2 = txO (numO x0) from rfl, show outE (.ok (x0, numO x0) : Except Int (Nat × Od)) = 0 from rfl]
  (repeat (first | with_reducible refine W.seq ?_ | with_reducible refine Ops.nil ?_ | with_reducible refine W.region ?_ | refine z_p (kk := ?_)))
  refine Ops.callS rfl rfl rfl rfl rfl (mod_c _ _ _ (by omega) (by omega)) ?_
  rw [modI_nat (by omega), hxm]
  skip
  refine Ops.call rfl rfl rfl rfl rfl (Number_c (hT.below hb02)) (fun r w3 hR => ?_)
  obtain ⟨rfl, hb23⟩ := hR
  have hb03 := Below.via hb02 hb23
  have hb13 := Below.via hb12 hb23
  rw [hN, show outM (.ok x0) = txO (numO x0) from rfl, show outE (.ok x0 : Except Int Nat) = 0 from rfl]
  (repeat (first | with_reducible refine W.seq ?_ | with_reducible refine Ops.nil ?_ | with_reducible refine W.region ?_ | refine z_p (kk := ?_) | refine z_y (kk := ?_)))
  refine Ops.callS rfl rfl rfl rfl rfl (mod_c _ _ _ (by omega) (by omega)) ?_
  rw [modI_nat (by omega), hxm]
  (repeat (first | with_reducible refine Ops.nil ?_ | refine z_p (kk := ?_) | refine z_y (kk := ?_) | refine z_ev (EV.sne rfl rfl rfl rfl) (kk := ?_) | refine z_h (kk := ?_)))
  refine W.condF rfl (by simp) ?_
  (repeat (first | with_reducible refine W.seq ?_ | with_reducible refine Ops.nil ?_ | with_reducible refine W.region ?_ | refine z_p (kk := ?_) | with_reducible refine W.skip ?_))
  have hgr : goodR (m0 : Int) (s0 : Int) = match goodL s0 2 m0 with
      | none => .error 5
      | some q => .ok q := by
    unfold goodR
    rw [if_pos (by omega), Int.toNat_natCast, Int.toNat_natCast]
    cases goodL s0 2 m0 <;> rfl
  cases hq : goodL s0 2 m0 with
  | none =>
    rw [hq] at hgr
    simp only at hgr
    rw [hgr] at hG1 hG2 ⊢
    obtain ⟨A1, d1, rfl⟩ := hG1.sh
    obtain ⟨A2, d2, rfl⟩ := hG2.sh
    rw [show outE (.error 5 : Except Int (List Nat × List Od)) = 5 from rfl]
    rw [show (intL (outG (.error 5)).1).length = 0 from rfl, show ((outG (.error 5)).2.map txO).length = 0 from rfl]
    skip
    refine W.condT rfl (by first | rfl | assumption | (simp only [bnf] <;> omega) | (simp only [*, bnf]; done) | fail) ?_
    (repeat (first | with_reducible refine W.seq ?_ | with_reducible refine W.region ?_ | refine z_p (kk := ?_)))
    refine Ops.callS rfl rfl rfl rfl rfl (full_c _ _) ?_
    (repeat (first | refine z_p (kk := ?_) | refine z_y (kk := ?_) | refine z_l (kk := ?_)))
    refine Ops.call rfl rfl rfl rfl rfl (awake_c (hT.below hb03)) (fun r w4 hR => ?_)
    obtain ⟨rfl, hb34⟩ := hR
    (repeat (first | with_reducible refine Ops.nil ?_ | refine z_p (kk := ?_)))
    exact W.fret rfl ⟨rfl, Below.via hb03 hb34⟩
  | some q =>
    rw [hq] at hgr
    simp only at hgr
    rw [hgr] at hG1 hG2 ⊢
    rw [show outE (.ok q : Except Int (List Nat × List Od)) = 0 from rfl]
    obtain ⟨ns, os⟩ := q
    have hS := goodL_spec _ _ _ hq
    rw [show (outG (.ok (ns, os))).1 = ns from rfl] at hG1
    rw [show (outG (.ok (ns, os))).2 = os from rfl] at hG2
    have hsl1 : SlI w1 v1 (intL ns) := (hG1.base hb1.size).sl (z := (0 : Int))
    have hsl2 : SlT w1 v2 (os.map txO) := (hG2.base hb1.size).sl (z := ([] : List UInt8))
    have hn1 := Sl.len hsl1
    have hn2 := Sl.len hsl2
    obtain ⟨A1, d1, rfl⟩ := hG1.sh
    obtain ⟨A2, d2, rfl⟩ := hG2.sh
    have q1 := hS.pos
    have q2 := hS.le
    have q3 := hS.lo
    have hil : (intL ns).length = ns.length := by simp [intL]
    have hol : (os.map txO).length = ns.length := by simp [q3]
    have hg0 : (intL ns).getD 0 0 = (m0 : Int) := by
      have := hS.hd
      rw [intL_get, this]
    skip
    refine W.condF rfl (by first | rfl | assumption | (simp only [bnf] <;> omega) | (simp only [*, bnf]; done) | fail) ?_
    (repeat (first | with_reducible refine W.seq ?_ | with_reducible refine W.region ?_ | refine z_p (kk := ?_) | refine z_a (kk := ?_) | refine z_y (kk := ?_) | with_reducible refine W.skip ?_ | refine z_l (kk := ?_) | refine z_K (kk := fun _ => ?_) | refine z_h (kk := ?_)))
    rw [show Int.toNat 0 = 0 from rfl, hg0]
    have hne0 : ((m0 : Int) != (m0 : Int)) = false := by simp
    rw [hne0]
    have hlast : ns.length ≤ s0 → (intL ns).getD (((intL ns).length : Int) - 1).toNat 0 = 0 := fun h => by
      rw [show (((intL ns).length : Int) - 1).toNat = ns.length - 1 by omega, intL_get, hS.fin h]; rfl
    refine Ops.cut (fun ρ w' => ρ = [(7, .slice A1 (intL ns).length d1), (8, .slice A2 (os.map txO).length d2), (124, .bool false)] ∧ w' = w3) ?_ ?_
    · (repeat (first | refine z_p (kk := ?_) | refine z_y (kk := ?_) | refine z_l (kk := ?_)))
      by_cases hle : ns.length ≤ s0
      · have hl0 := hlast hle
        (repeat (first | with_reducible refine Ops.nil ?_ | refine z_p (kk := ?_) | refine z_a (kk := ?_) | refine z_y (kk := ?_) | refine z_l (kk := ?_) | refine z_K (kk := fun _ => ?_) | refine z_h (kk := ?_)))
        rw [hl0]
        skip
        exact W.endl ⟨_, ⟨rfl, rfl⟩, (by repeat (first | exact trivial | refine And.intro rfl ?_))⟩
      · (repeat (first | with_reducible refine Ops.nil ?_ | refine z_p (kk := ?_) | refine z_y (kk := ?_) | refine z_n (kk := ?_) | refine z_g (kk := ?_)))
        exact W.endl ⟨_, ⟨rfl, rfl⟩, (by repeat (first | exact trivial | refine And.intro rfl ?_))⟩
    rintro ρ w3' ⟨rfl, rfl⟩
    clear hlast hne0 hB hN
    skip
    refine W.condF rfl (by first | rfl | assumption | (simp only [bnf] <;> omega) | (simp only [*, bnf]; done) | fail) ?_
    (repeat (first | with_reducible refine W.seq ?_ | with_reducible refine Ops.nil ?_ | with_reducible refine W.region ?_ | refine z_p (kk := ?_) | with_reducible refine W.skip ?_ | with_reducible refine W.block ?_))
    have hb33 : Below w3'.heap.size w3' w3' := Below.refl _ _
    have hsl1' := Sl.below hsl1 hb13
    have hsl2' := Sl.below hsl2 hb13
    refine W.loop (fun k ρ w4 => ∃ i : Nat, k = ns.length - i ∧ i ≤ ns.length ∧ ρ = [(7, .slice A1 (intL ns).length d1), (8, .slice A2 (os.map txO).length d2), (15, .int .i64 i)] ∧ Below w3'.heap.size w3' w4)
      ⟨_, _, ⟨0, rfl, Nat.zero_le _, rfl, hb33⟩, (by repeat (first | exact trivial | refine And.intro rfl ?_))⟩ ?_
    rintro k ρ w4 ⟨i, rfl, hi, rfl, hb34⟩
    have hb44 : Below w4.heap.size w4 w4 := Below.refl _ _
    have hT4 := hT.below (Below.via hb03 hb34)
    (repeat (first | with_reducible refine W.seq ?_ | with_reducible refine Ops.nil ?_ | with_reducible refine W.region ?_ | refine z_p (kk := ?_) | refine z_l (kk := ?_)))
    (first | refine W.condD rfl (fun hc => ?_) (fun hc => ?_) | refine W.condE rfl (fun hc => ?_) (fun hc => ?_) | refine W.condN rfl (fun hc => ?_) (fun hc => ?_) | refine W.cond rfl (fun hc => ?_) (fun hc => ?_))
    · have hin : i < ns.length := by omega
      have ho := hS.od i hin
      have hgi : (intL ns).getD i 0 = ((ns.getD i 0 : Nat) : Int) := intL_get _ _
      have hti : (os.map txO).getD i [] = txO (os.getD i .nil) := txL_get (by omega)
      rw [ho.1] at hti
      generalize hni : ns.getD i 0 = ni at *
      have hrd := rdA_lif (b := 2 + i) (m := ni) (by omega) (by omega) ho.2
      have hln := txO_le (b := 2 + i) (m := ni) (by omega) (by omega) ho.2
      (repeat (first | with_reducible refine W.seq ?_ | with_reducible refine Ops.nil ?_ | with_reducible refine W.region ?_ | refine z_p (kk := ?_) | with_reducible refine W.skip ?_ | with_reducible refine W.block ?_))
      refine W.cut (fun ρ w5 => ρ = [(7, .slice A1 (intL ns).length d1), (8, .slice A2 (os.map txO).length d2), (15, .int .i64 i)] ∧ Below w3'.heap.size w3' w5) ?_ ?_
      · by_cases hi0 : 0 < i
        · have ho1 := hS.od (i - 1) (by omega)
          obtain ⟨n1, n2, n3⟩ := hS.nxt (i - 1) (by omega)
          rw [show i - 1 + 1 = i by omega, hni] at n3
          have hgi1 : (intL ns).getD ((i : Int) - 1).toNat 0 = ((ns.getD (i - 1) 0 : Nat) : Int) := by rw [show ((i : Int) - 1).toNat = i - 1 by omega]; exact intL_get _ _
          have hti1 : (os.map txO).getD ((i : Int) - 1).toNat [] = txO (os.getD (i - 1) .nil) := by rw [show ((i : Int) - 1).toNat = i - 1 by omega]; exact txL_get (by omega)
          rw [ho1.1] at hti1
          generalize hn1i : ns.getD (i - 1) 0 = nj at *
          have hrd1 := rdA_lif (b := 2 + (i - 1)) (m := nj) (by omega) (by omega) ho1.2
          have hln1 := txO_le (b := 2 + (i - 1)) (m := nj) (by omega) (by omega) ho1.2
          have hdn := good_down (b := 2 + (i - 1)) (n := nj) (by omega) n1
          rw [← n3, show 2 + (i - 1) + 1 = 2 + i by omega] at hdn
          have hcr := cmpR_ok hrd hrd1
          rw [hdn] at hcr
          refine W.condT rfl (by first | rfl | assumption | (simp only [bnf] <;> omega) | (simp only [*, bnf]; done) | fail) ?_
          (repeat (first | with_reducible refine W.seq ?_))
          refine W.ordA 99 [(0, 1), (1, 1), (2, 1), (3, 2), (4, 1), (5, 1), (6, 1), (7, 1), (8, 2), (9, 2), (10, 1), (11, 1), (12, 1), (13, 1), (14, 1)] rfl (by kernel_rfl) rfl (by kernel_rfl) (fun _ _ _ h => h) ?_
          (repeat (first | refine x_p (kk := ?_) | refine x_a (kk := ?_) | refine x_TJ (kk := fun _ => ?_) | refine x_TL (kk := fun _ => ?_)))
          rw [hti, hti1]
          refine OrdA.call rfl rfl rfl rfl rfl rfl rfl (fun w' hw' => Calls.via hw' (Compare_c hln hln1)) ?_
          rw [hcr, show outI (.ok (-1) : Except Int Int) = -1 from rfl, show outE (.ok (-1) : Except Int Int) = 0 from rfl]
          (repeat (first | refine x_p (kk := ?_)))
          refine OrdA.nil (fun w5 hb45 => ?_)
          have hb35 := Below.via hb34 hb45
          (repeat (first | with_reducible refine W.seq ?_ | with_reducible refine Ops.nil ?_ | with_reducible refine W.region ?_ | refine z_p (kk := ?_) | refine z_a (kk := ?_) | refine z_y (kk := ?_) | refine z_K (kk := fun _ => ?_)))
          rw [hgi1]
          have hnj : (((nj : Nat) : Int) == 0) = false := by simp; omega
          rw [hnj]
          skip
          refine W.condF rfl (by simp) ?_
          (repeat (first | with_reducible refine W.skip ?_))
          exact W.endl ⟨_, ⟨rfl, hb35⟩, (by repeat (first | exact trivial | refine And.intro rfl ?_))⟩
        · refine W.condF rfl (by first | rfl | assumption | (simp only [bnf] <;> omega) | (simp only [*, bnf]; done) | fail) ?_
          (repeat (first | with_reducible refine W.skip ?_))
          exact W.endl ⟨_, ⟨rfl, hb34⟩, (by repeat (first | exact trivial | refine And.intro rfl ?_))⟩
      · rintro ρ w5 ⟨rfl, hb35⟩
        have hb55 : Below w5.heap.size w5 w5 := Below.refl _ _
        have hT5 := hT.below (Below.via hb03 hb35)
        (repeat (first | with_reducible refine W.seq ?_ | with_reducible refine Ops.nil ?_ | with_reducible refine W.region ?_ | refine z_p (kk := ?_) | refine z_I (kk := fun _ => ?_)))
        rw [hgi]
        by_cases hbig : ni > 1000000
        · refine W.condT rfl (by simp; omega) ?_
          (repeat (first | with_reducible refine Ops.nil ?_ | with_reducible refine W.region ?_ | refine z_p (kk := ?_) | refine z_a (kk := ?_) | refine W.exit rfl ?_))
          exact W.endl ⟨_, _, ⟨⟨i + 1, rfl, by omega, rfl, hb35⟩, by omega⟩, (by repeat (first | exact trivial | refine And.intro rfl ?_))⟩
        · refine W.condF rfl (by simp; omega) ?_
          have hbr : bumR (ni : Int) ((2 + i : Nat) : Int) = if bmp (2 + i) ni ≤ 1152921504606846976 ∧ bigT (lif (2 + i) ni) = false then .ok (bmp (2 + i) ni, lif (2 + i) ni) else .error 5 := by
            unfold bumR
            rw [if_pos (by omega), Int.toNat_natCast, Int.toNat_natCast]
          (repeat (first | with_reducible refine W.seq ?_ | with_reducible refine W.region ?_ | refine z_p (kk := ?_) | refine z_a (kk := ?_) | with_reducible refine W.skip ?_ | refine z_I (kk := fun _ => ?_)))
          rw [hgi, show (2 : Int) + (i : Int) = ((2 + i : Nat) : Int) by omega]
          refine Ops.call rfl rfl rfl rfl rfl (Bumped_c hT5) (fun r w6 hR => ?_)
          obtain ⟨rfl, hb56⟩ := hR
          have hb36 := Below.via hb35 hb56
          rw [hbr]
          have hfin : ∀ ρ, Sub [(7, .slice A1 (intL ns).length d1), (8, .slice A2 (os.map txO).length d2), (15, .int .i64 i)] ρ → True := fun _ _ => trivial
          by_cases hok : bmp (2 + i) ni ≤ 1152921504606846976
          · rw [if_pos ⟨hok, ho.2⟩, show (outN (.ok (bmp (2 + i) ni, lif (2 + i) ni))).1 = (bmp (2 + i) ni : Int) from rfl, show (outN (.ok (bmp (2 + i) ni, lif (2 + i) ni))).2 = txO (lif (2 + i) ni) from rfl, show outE (.ok (bmp (2 + i) ni, lif (2 + i) ni) : Except Int (Nat × Od)) = 0 from rfl]
            (repeat (first | with_reducible refine W.seq ?_ | with_reducible refine Ops.nil ?_ | with_reducible refine W.region ?_ | refine z_p (kk := ?_) | refine z_y (kk := ?_) | refine z_TJ (kk := fun _ => ?_) | refine z_ev (EV.sne rfl rfl rfl rfl) (kk := ?_)))
            have hd : decide (txO (lif (2 + i) ni) = txO (lif (2 + i) ni)) = true := by simp
            rw [hti, hd]
            by_cases hi1 : i + 1 < ns.length
            · obtain ⟨n1, n2, n3⟩ := hS.nxt i hi1
              rw [hni] at n1 n2 n3
              have hle := le_bmp (b := 2 + i) (by omega) ni
              have hgi2 : (intL ns).getD ((i : Int) + 1).toNat 0 = ((bmp (2 + i) ni : Nat) : Int) - 1 := by rw [show ((i : Int) + 1).toNat = i + 1 by omega, intL_get, n3]; omega
              (repeat (first | with_reducible refine Ops.nil ?_ | refine z_p (kk := ?_) | refine z_a (kk := ?_) | refine z_y (kk := ?_) | refine z_n (kk := ?_) | refine z_l (kk := ?_) | refine z_K (kk := fun _ => ?_) | refine z_h (kk := ?_)))
              rw [hgi2]
              have hd2 : (((bmp (2 + i) ni : Nat) : Int) - 1 != ((bmp (2 + i) ni : Nat) : Int) - 1) = false := by simp
              rw [hd2]
              skip
              refine W.condF rfl (by simp) ?_
              (repeat (first | with_reducible refine Ops.nil ?_ | with_reducible refine W.region ?_ | refine z_p (kk := ?_) | refine z_a (kk := ?_) | with_reducible refine W.skip ?_ | with_reducible refine W.endb ?_))
              exact W.endl ⟨_, _, ⟨⟨i + 1, rfl, by omega, rfl, hb36⟩, by omega⟩, (by repeat (first | exact trivial | refine And.intro rfl ?_))⟩
            · (repeat (first | with_reducible refine Ops.nil ?_ | refine z_p (kk := ?_) | refine z_a (kk := ?_) | refine z_y (kk := ?_) | refine z_n (kk := ?_) | refine z_l (kk := ?_) | refine z_g (kk := ?_)))
              refine W.condF rfl (by simp) ?_
              (repeat (first | with_reducible refine Ops.nil ?_ | with_reducible refine W.region ?_ | refine z_p (kk := ?_) | refine z_a (kk := ?_) | with_reducible refine W.skip ?_ | with_reducible refine W.endb ?_))
              exact W.endl ⟨_, _, ⟨⟨i + 1, rfl, by omega, rfl, hb36⟩, by omega⟩, (by repeat (first | exact trivial | refine And.intro rfl ?_))⟩
          · rw [if_neg (fun h => hok h.1), show (outN (.error 5)).1 = 0 from rfl, show (outN (.error 5)).2 = [] from rfl, show outE (.error 5 : Except Int (Nat × Od)) = 5 from rfl]
            by_cases hi1 : i + 1 < ns.length
            · obtain ⟨n1, n2, n3⟩ := hS.nxt i hi1
              rw [hni] at n1 n2 n3
              have hgi2 : (intL ns).getD ((i : Int) + 1).toNat 0 = 1152921504606846976 := by rw [show ((i : Int) + 1).toNat = i + 1 by omega, intL_get, n3]; omega
              (repeat (first | with_reducible refine W.seq ?_ | with_reducible refine Ops.nil ?_ | with_reducible refine W.region ?_ | refine z_p (kk := ?_) | refine z_a (kk := ?_) | refine z_y (kk := ?_) | refine z_n (kk := ?_) | refine z_u (kk := ?_) | refine z_l (kk := ?_) | refine z_K (kk := fun _ => ?_) | refine z_h (kk := ?_)))
              rw [hgi2]
              skip
              refine W.condF rfl (by simp) ?_
              (repeat (first | with_reducible refine Ops.nil ?_ | with_reducible refine W.region ?_ | refine z_p (kk := ?_) | refine z_a (kk := ?_) | with_reducible refine W.skip ?_ | with_reducible refine W.endb ?_))
              exact W.endl ⟨_, _, ⟨⟨i + 1, rfl, by omega, rfl, hb36⟩, by omega⟩, (by repeat (first | exact trivial | refine And.intro rfl ?_))⟩
            · (repeat (first | with_reducible refine W.seq ?_ | with_reducible refine Ops.nil ?_ | with_reducible refine W.region ?_ | refine z_p (kk := ?_) | refine z_a (kk := ?_) | refine z_y (kk := ?_) | refine z_n (kk := ?_) | refine z_u (kk := ?_) | refine z_l (kk := ?_) | refine z_g (kk := ?_)))
              refine W.condF rfl (by simp) ?_
              (repeat (first | with_reducible refine Ops.nil ?_ | with_reducible refine W.region ?_ | refine z_p (kk := ?_) | refine z_a (kk := ?_) | with_reducible refine W.skip ?_ | with_reducible refine W.endb ?_))
              exact W.endl ⟨_, _, ⟨⟨i + 1, rfl, by omega, rfl, hb36⟩, by omega⟩, (by repeat (first | exact trivial | refine And.intro rfl ?_))⟩
    · (repeat (first | with_reducible refine W.seq ?_ | with_reducible refine W.region ?_ | refine W.exit rfl ?_))
      refine Ops.call rfl rfl rfl rfl rfl (awake_c hT4) (fun r w5 hR => ?_)
      obtain ⟨rfl, hb45⟩ := hR
      (repeat (first | with_reducible refine Ops.nil ?_ | refine z_p (kk := ?_)))
      exact W.fret rfl ⟨rfl, Below.via hb03 (Below.via hb34 hb45)⟩
end Go.Proofs.YtcmjlmnfdncajaaGreatDoor
