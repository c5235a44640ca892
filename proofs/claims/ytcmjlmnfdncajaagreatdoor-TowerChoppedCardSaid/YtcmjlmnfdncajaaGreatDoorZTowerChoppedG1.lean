/- A part of the walk: what this seat's statements share. -/
import Derived.Test.YtcmjlmnfdncajaaGreatDoorZG7
import Derived.Test.YtcmjlmnfdncajaaGreatDoorZG9
import Derived.Test.YtcmjlmnfdncajaaGreatDoorZG10
import Derived.Test.YtcmjlmnfdncajaaGreatDoorZG5
import Derived.Test.YtcmjlmnfdncajaaGreatDoorZG8
set_option linter.unusedVariables false
set_option linter.unusedSimpArgs false
set_option linter.unusedSectionVars false
namespace Go.Proofs.YtcmjlmnfdncajaaGreatDoor
open Go Go.RowKit Go.Proofs.YtcmjlmnfdncajaaGreatDoor.VW Go.Proofs.YtcmjlmnfdncajaaGreatDoor.TW
attribute [local irreducible] W Ops OrdA VW.Ord OrdX Wi OpsI OrdF
def kindR (s : List UInt8) : Except Int Nat := match rdA s with
  | none => .error 4
  | some a => .ok (kindO a)
def outK : Except Int Nat → Int
  | .ok x => (x : Int)
  | .error _ => 0
theorem Kind1_c {w : World} {b0 b3 : Nat} {s : List UInt8} (hs : s.length ≤ 4294967295) (B0 : Blk w b0 #[S s] 9) (B3 : Blk w b3 #[.int .i64 0] 3) :
    Calls Tryz.prog 74 #[.pointer (some ⟨b0, 0, none⟩), .pointer (some ⟨b3, 0, none⟩)] w
      (RetP (fun _ w' => Kp (fun i => i = b3) w w' ∧ ∃ x, kindR s = .ok x ∧ Blk w' b3 #[.int .i64 (x : Int)] 3) (fun ch w' => ∃ e, ch = trb e ∧ Kp (fun i => i = b3) w w' ∧ kindR s = .error e ∧ Kp (fun _ => False) w w')) := by
  refine calls_WP (vs := [_, _]) Tryz.func74 rfl (by kernel_rfl) rfl ?_
  (repeat (first | with_reducible refine W.region ?_ | refine z_d (kk := ?_)))
  refine Ops.callP rfl rfl rfl rfl rfl (readOrdinal_c hs) (fun va w1 hR => ?_) (fun ch w1 hR => ?_)
  rotate_left
  · obtain ⟨rfl, h1, hb1⟩ := hR
    exact ⟨4, rfl, (kpF hb1).mono (fun _ _ e => e.elim), by unfold kindR; rw [h1], kpF hb1⟩
  obtain ⟨a, ha, hA, hb1⟩ := hR
  have B31 := B3.kp (kpF hb1) (fun e => e)
  skip
  refine Ops.callS rfl rfl rfl rfl rfl (kind_c hA) ?_
  refine Ops.st rfl rfl rfl rfl rfl rfl rfl B31 (by simp) (fun w4 hu => ?_)
  (repeat (first | with_reducible refine Ops.nil ?_))
  refine W.fendP rfl ⟨((kpF hb1).trans hu.kp).mono (fun _ _ e => by rcases e with e | e; exact e.elim; exact e), kindO a, ?_, by simpa using hu.blk⟩
  unfold kindR
  rw [ha]
theorem Kind_c {w : World} {s : List UInt8} (hs : s.length ≤ 4294967295) :
    Calls Tryz.prog 24 #[S s] w (Ret fun r w' => r = .tuple #[.int .i64 (outK (kindR s)), .int .i64 (outE (kindR s))] ∧ Below w.heap.size w w') := by
  refine calls_W (vs := [_]) Tryz.func24 rfl (by kernel_rfl) rfl ?_
  (repeat (first | with_reducible refine W.seq ?_ | with_reducible refine W.region ?_))
  refine Ops.box rfl rfl rfl rfl (fun w1 b0 hM1 => ?_)
  refine Ops.alloc rfl rfl rfl rfl (fun w4 b3 hM4 => ?_)
  have hb14 := Mk.bel hM4
  have hb04 := Below.via (Mk.bel hM1) hb14
  have B0 : Blk w4 b0 #[S s] 9 := Blk.kp (w := w1) (hM1.at_) (kpF hb14) (fun e => e)
  have B3 : Blk w4 b3 #[.int .i64 0] 3 := hM4.at_
  have e3 := hM4.r_eq
  have l3 := B3.lt
  have hw03 := (Mk.bel hM1).size
  (repeat (first | with_reducible refine W.seq ?_ | with_reducible refine Ops.nil ?_ | with_reducible refine W.region ?_ | refine z_p (kk := ?_)))
  refine Ops.call rfl rfl rfl rfl rfl (guard_c (F := 74) (caps := [.pointer (some ⟨b0, 0, none⟩), .pointer (some ⟨b3, 0, none⟩)]) (T := fun i => i = b3) (N := fun _ w' => ∃ x, kindR s = .ok x ∧ Blk w' b3 #[.int .i64 (x : Int)] 3) (E' := fun w1 w' e => kindR s = .error e ∧ Kp (fun _ => False) w1 w') rfl (fun i h => by omega) (fun w5 hlt hb5 => Kind1_c hs (B0.kp (kpF hb5) (fun e => e)) (B3.kp (kpF hb5) (fun e => e)))) (fun r w' hR => ?_)
  obtain ⟨w5, w6, hlt, hb5, k56, k67, hor⟩ := hR
  have hfin : ∃ x e, x = outK (kindR s) ∧ e = outE (kindR s) ∧ r = .int .i64 e ∧ Blk w' b3 #[.int .i64 x] 3 := by
    rcases hor with ⟨rfl, x, h1, h2⟩ | ⟨e, rfl, h1, h2⟩
    · exact ⟨x, 0, by rw [h1]; rfl, by rw [h1]; rfl, rfl, h2.kp k67 (fun h => by omega)⟩
    · exact ⟨0, e, by rw [h1]; rfl, by rw [h1]; rfl, rfl, ((B3.kp (kpF hb5) (fun e => e)).kp h2 (fun e => e)).kp k67 (fun h => by omega)⟩
  obtain ⟨x, e, hx, he, rfl, B3'⟩ := hfin
  have hb0' : Below w.heap.size w w' := Below.put (Below.put (Below.via hb04 hb5) k56 (fun i h => by omega)) k67 (fun i h => by omega)
  have hbww : Below w'.heap.size w' w' := Below.refl _ _
  rw [← hx, ← he]
  (repeat (first | with_reducible refine W.seq ?_ | with_reducible refine Ops.nil ?_ | with_reducible refine W.region ?_ | refine z_p (kk := ?_) | refine z_d (kk := ?_)))
  refine Ops.st rfl rfl rfl rfl rfl rfl rfl B3' (by simp) (fun w7 hu => ?_)
  have B7 : Blk w7 b3 #[.int .i64 x] 3 := by simpa using hu.blk
  (repeat (first | with_reducible refine Ops.nil ?_ | refine z_p (kk := ?_)))
  exact W.fretW (vs := [_, _]) ⟨_, _, rfl, ⟨b3, 0, _, 3, rfl, rfl, B7, rfl⟩, _, _, rfl, rfl, rfl⟩ ⟨rfl, Below.put hb0' hu.kp (fun i h => by omega)⟩
def stepR (s : List UInt8) (n : Int) : Except Int (List UInt8) := match rdA s with
  | none => .error 4
  | some a => if 0 ≤ n ∧ n ≤ 1000 then (if kindO a = 0 then .error 6 else if bigT (stepO a n.toNat) = true then .error 5 else .ok (txO (stepO a n.toNat))) else .error 2
set_option maxHeartbeats 2000000 in
theorem Step1_c {w : World} {b0 b1 b3 : Nat} {s : List UInt8} {n : Int} (hs : s.length ≤ 4294967295) (hT : Tbl w) (B0 : Blk w b0 #[S s] 9) (B1 : Blk w b1 #[.int .i64 n] 3) (B3 : Blk w b3 #[S []] 9) :
    Calls Tryz.prog 76 #[.pointer (some ⟨b0, 0, none⟩), .pointer (some ⟨b1, 0, none⟩), .pointer (some ⟨b3, 0, none⟩)] w
      (RetP (fun _ w' => Kp (fun i => i = b3) w w' ∧ ∃ x, stepR s n = .ok x ∧ Blk w' b3 #[S x] 9) (fun ch w' => ∃ e, ch = trb e ∧ Kp (fun i => i = b3) w w' ∧ stepR s n = .error e ∧ Kp (fun _ => False) w w')) := by
  refine calls_WP (vs := [_, _, _]) Tryz.func76 rfl (by kernel_rfl) rfl ?_
  (repeat (first | with_reducible refine W.seq ?_ | with_reducible refine W.region ?_ | refine z_d (kk := ?_)))
  refine Ops.callP rfl rfl rfl rfl rfl (readOrdinal_c hs) (fun va w1 hR => ?_) (fun ch w1 hR => ?_)
  rotate_left
  · obtain ⟨rfl, h1, hb1⟩ := hR
    exact ⟨4, rfl, (kpF hb1).mono (fun _ _ e => e.elim), by unfold stepR; rw [h1], kpF hb1⟩
  obtain ⟨a, ha, hA, hb1⟩ := hR
  obtain ⟨na, sa, za⟩ := rdA_spec ha
  have B11 := B1.kp (kpF hb1) (fun e => e)
  have B31 := B3.kp (kpF hb1) (fun e => e)
  have hdef : stepR s n = if 0 ≤ n ∧ n ≤ 1000 then (if kindO a = 0 then .error 6 else if bigT (stepO a n.toNat) = true then .error 5 else .ok (txO (stepO a n.toNat))) else .error 2 := by unfold stepR; rw [ha]
  have hb11 : Below w1.heap.size w1 w1 := Below.refl _ _
  (repeat (first | with_reducible refine W.seq ?_ | with_reducible refine Ops.nil ?_ | with_reducible refine W.region ?_ | refine z_p (kk := ?_) | refine z_d (kk := ?_)))
  refine Ops.callS rfl rfl rfl rfl rfl (within_c _ _ _ _) ?_
  skip
  refine Ops.callP rfl rfl rfl rfl rfl (demand_c _ _ _) (fun r w2 hR => ?_) (fun ch w2 hR => ?_)
  rotate_left
  · obtain ⟨hb, rfl, rfl⟩ := hR
    have h2 := of_decide_eq_false hb
    exact ⟨2, rfl, (kpF hb1).mono (fun _ _ e => e.elim), by rw [hdef, if_neg h2], kpF hb1⟩
  obtain ⟨hb, hw⟩ := hR
  subst w2
  have h2 := of_decide_eq_true hb
  clear hb
  rw [if_pos h2] at hdef
  obtain ⟨m, rfl⟩ : ∃ m : Nat, n = (m : Int) := ⟨n.toNat, by omega⟩
  rw [Int.toNat_natCast] at hdef
  obtain ⟨l, hRl, hAl⟩ := id hA
  have hll := hAl.len
  obtain ⟨A, c, rfl⟩ := hRl.sh
  (repeat (first | with_reducible refine W.seq ?_ | with_reducible refine Ops.nil ?_ | with_reducible refine W.region ?_ | refine z_p (kk := ?_) | refine z_l (kk := ?_)))
  refine Ops.callP rfl rfl rfl rfl rfl (demand_c _ _ _) (fun r w2 hR => ?_) (fun ch w2 hR => ?_)
  rotate_left
  · obtain ⟨hb, rfl, rfl⟩ := hR
    have h3 := of_decide_eq_false hb
    exact ⟨6, rfl, (kpF hb1).mono (fun _ _ e => e.elim), by rw [hdef, if_pos (kind_zero.2 (lenO_zero.1 (by omega)))], kpF hb1⟩
  obtain ⟨hb, hw⟩ := hR
  subst w2
  have h3 := of_decide_eq_true hb
  clear hb
  have hne : a ≠ .nil := fun e => by have := lenO_zero.2 e; omega
  rw [if_neg (fun h => hne (kind_zero.1 h))] at hdef
  have hmo := small_most sa
  have hsm := step_most a m
  have hss := step_sz a m
  have hsq : szO a * (szO a + 1) ≤ 60 * 61 := Nat.mul_le_mul za (by omega)
  (repeat (first | with_reducible refine Ops.nil ?_ | with_reducible refine W.region ?_ | refine z_p (kk := ?_) | refine z_d (kk := ?_)))
  refine Ops.call rfl rfl rfl rfl rfl (step_c _ (S' := fun i => i < w.heap.size) (Nat.le_refl _) (by omega) hne (by omega) (by omega) (fun i hi => by have := hb1.size; omega) hA) (fun v2 w2 hR => ?_)
  obtain ⟨hM2, hb2⟩ := hR
  have hb02 := Below.via hb1 hb2
  skip
  refine Ops.callP rfl rfl rfl rfl rfl (checked_c hM2 (by omega)) (fun vc w3 hR => ?_) (fun ch w3 hR => ?_)
  rotate_left
  · obtain ⟨rfl, hbig, hb3⟩ := hR
    have k03 : Kp (fun _ => False) w w3 := kpF (Below.via hb02 hb3)
    exact ⟨5, rfl, k03.mono (fun _ _ e => e.elim), by rw [hdef, if_pos hbig], k03⟩
  obtain ⟨rfl, hbig, hb3⟩ := hR
  have hb03 := Below.via hb02 hb3
  refine Ops.call rfl rfl rfl rfl rfl (text_c _ (Nat.le_refl _) (by omega) (by omega) (hT.below hb03) (hM2.below hb3)) (fun vt w4 hR => ?_)
  obtain ⟨rfl, hb4⟩ := hR
  have hb04 := Below.via hb03 hb4
  have B34 := B3.kp (kpF hb04) (fun e => e)
  refine Ops.st rfl rfl rfl rfl rfl rfl rfl B34 (by simp) (fun w5 hu => ?_)
  (repeat (first | with_reducible refine Ops.nil ?_))
  refine W.fendP rfl ⟨((kpF hb04).trans hu.kp).mono (fun _ _ e => by rcases e with e | e; exact e.elim; exact e), txO (stepO a m), by rw [hdef, if_neg (by rw [hbig]; simp)], by simpa using hu.blk⟩
theorem Step_c {w : World} {s : List UInt8} {n : Int} (hs : s.length ≤ 4294967295) (hT : Tbl w) :
    Calls Tryz.prog 25 #[S s, .int .i64 n] w (Ret fun r w' => r = .tuple #[S (outS (stepR s n)), .int .i64 (outE (stepR s n))] ∧ Below w.heap.size w w') := by
  refine calls_W (vs := [_, _]) Tryz.func25 rfl (by kernel_rfl) rfl ?_
  (repeat (first | with_reducible refine W.seq ?_ | with_reducible refine W.region ?_))
  refine Ops.box rfl rfl rfl rfl (fun w1 b0 hM1 => ?_)
  refine Ops.box rfl rfl rfl rfl (fun w2 b1 hM2 => ?_)
  refine Ops.alloc rfl rfl rfl rfl (fun w4 b3 hM4 => ?_)
  have hb24 := Mk.bel hM4
  have hb14 := Below.via (Mk.bel hM2) hb24
  have hb04 := Below.via (Mk.bel hM1) hb14
  have B0 : Blk w4 b0 #[S s] 9 := Blk.kp (w := w1) (hM1.at_) (kpF hb14) (fun e => e)
  have B1 : Blk w4 b1 #[.int .i64 n] 3 := Blk.kp (w := w2) (hM2.at_) (kpF hb24) (fun e => e)
  have B3 : Blk w4 b3 #[S []] 9 := hM4.at_
  have e3 := hM4.r_eq
  have s1 := hM1.size
  have s2 := hM2.size
  have s4 := hM4.size
  (repeat (first | with_reducible refine W.seq ?_ | with_reducible refine Ops.nil ?_ | with_reducible refine W.region ?_ | refine z_p (kk := ?_)))
  refine Ops.call rfl rfl rfl rfl rfl (guard_c (F := 76) (caps := [.pointer (some ⟨b0, 0, none⟩), .pointer (some ⟨b1, 0, none⟩), .pointer (some ⟨b3, 0, none⟩)]) (T := fun i => i = b3) (N := fun w1 w' => ∃ x, stepR s n = .ok x ∧ Blk w' b3 #[S x] 9) (E' := fun w1 w' e => stepR s n = .error e ∧ Kp (fun _ => False) w1 w') rfl (fun i h => by omega) (fun w5 hlt hb5 => Step1_c hs (hT.below (Below.via hb04 hb5)) (B0.kp (kpF hb5) (fun e => e)) (B1.kp (kpF hb5) (fun e => e)) (B3.kp (kpF hb5) (fun e => e)))) (fun r w' hR => ?_)
  obtain ⟨w5, w6, hlt, hb5, k56, k67, hor⟩ := hR
  have hfin : ∃ x e, x = outS (stepR s n) ∧ e = outE (stepR s n) ∧ r = .int .i64 e ∧ Blk w' b3 #[S x] 9 := by
    rcases hor with ⟨rfl, x, h1, h2⟩ | ⟨e, rfl, h1, h2⟩
    · exact ⟨x, 0, by rw [h1]; rfl, by rw [h1]; rfl, rfl, h2.kp k67 (fun h => by omega)⟩
    · exact ⟨[], e, by rw [h1]; rfl, by rw [h1]; rfl, rfl, ((B3.kp (kpF hb5) (fun e => e)).kp h2 (fun e => e)).kp k67 (fun h => by omega)⟩
  obtain ⟨x, e, hx, he, rfl, B3'⟩ := hfin
  have hb0' : Below w.heap.size w w' := Below.put (Below.put (Below.via hb04 hb5) k56 (fun i h => by omega)) k67 (fun i h => by omega)
  have hbww : Below w'.heap.size w' w' := Below.refl _ _
  rw [← hx, ← he]
  (repeat (first | with_reducible refine W.seq ?_ | with_reducible refine Ops.nil ?_ | with_reducible refine W.region ?_ | refine z_p (kk := ?_) | refine z_d (kk := ?_)))
  refine Ops.st rfl rfl rfl rfl rfl rfl rfl B3' (by simp) (fun w7 hu => ?_)
  have B7 : Blk w7 b3 #[S x] 9 := by simpa using hu.blk
  (repeat (first | with_reducible refine Ops.nil ?_ | refine z_p (kk := ?_)))
  exact W.fretW (vs := [_, _]) ⟨_, _, rfl, ⟨b3, 0, _, 9, rfl, rfl, B7, rfl⟩, _, _, rfl, rfl, rfl⟩ ⟨rfl, Below.put hb0' hu.kp (fun i h => by omega)⟩
end Go.Proofs.YtcmjlmnfdncajaaGreatDoor
/- Plain: what Goodstein's list is. -/
namespace Go.Proofs.YtcmjlmnfdncajaaGreatDoor.TW
structure GoodS (r b m : Nat) (ns : List Nat) (os : List Od) : Prop where
  lo : os.length = ns.length
  pos : 1 ≤ ns.length
  le : ns.length ≤ r + 1
  hd : ns.getD 0 0 = m
  fin : ns.length ≤ r → ns.getD (ns.length - 1) 0 = 0
  od : ∀ i, i < ns.length → os.getD i .nil = lif (b + i) (ns.getD i 0) ∧ bigT (lif (b + i) (ns.getD i 0)) = false
  nxt : ∀ i, i + 1 < ns.length → ns.getD i 0 ≠ 0 ∧ bmp (b + i) (ns.getD i 0) ≤ 1152921504606846977 ∧ ns.getD (i + 1) 0 = bmp (b + i) (ns.getD i 0) - 1
theorem goodL_spec : ∀ (r b m : Nat) {ns : List Nat} {os : List Od}, goodL r b m = some (ns, os) → GoodS r b m ns os
  | 0, b, m, ns, os, h => by
    by_cases hb : bigT (lif b m) = true
    · rw [goodL_big hb] at h; cases h
    · have hb' : bigT (lif b m) = false := by simpa using hb
      rw [goodL_end hb' (.inr rfl)] at h
      simp only [Option.some.injEq, Prod.mk.injEq] at h
      obtain ⟨rfl, rfl⟩ := h
      exact ⟨rfl, Nat.le_refl _, Nat.le_refl _, rfl, fun h => by simp at h, fun i hi => by
        have : i = 0 := by simpa using hi
        subst this
        exact ⟨rfl, hb'⟩, fun i hi => by simp at hi⟩
  | r + 1, b, m, ns, os, h => by
    by_cases hb : bigT (lif b m) = true
    · rw [goodL_big hb] at h; cases h
    · have hb' : bigT (lif b m) = false := by simpa using hb
      by_cases hm : m = 0
      · rw [goodL_end hb' (.inl hm)] at h
        simp only [Option.some.injEq, Prod.mk.injEq] at h
        obtain ⟨rfl, rfl⟩ := h
        exact ⟨rfl, Nat.le_refl _, by simp, rfl, fun _ => hm, fun i hi => by
          have : i = 0 := by simpa using hi
          subst this
          exact ⟨rfl, hb'⟩, fun i hi => by simp at hi⟩
      · by_cases h3 : bmp b m ≤ 1152921504606846977
        · rw [goodL_more hb' hm h3] at h
          cases hx : goodL r (b + 1) (bmp b m - 1) with
          | none => rw [hx] at h; cases h
          | some q =>
            rw [hx] at h
            simp only [Option.map_some, Option.some.injEq, Prod.mk.injEq] at h
            obtain ⟨rfl, rfl⟩ := h
            obtain ⟨q1, q2⟩ := q
            have ih := goodL_spec r (b + 1) (bmp b m - 1) hx
            refine ⟨by simp [ih.lo], by simp, by simp; exact ih.le, rfl, fun h => ?_, fun i hi => ?_, fun i hi => ?_⟩
            · have h1 := ih.fin (by simpa using h)
              have h2 := ih.pos
              simp only [List.length_cons, Nat.add_sub_cancel]
              rw [show q1.length = (q1.length - 1) + 1 by omega, List.getD_cons_succ]
              exact h1
            · cases i with
              | zero => exact ⟨rfl, hb'⟩
              | succ i =>
                have := ih.od i (by simpa using hi)
                simp only [List.getD_cons_succ]
                rw [show b + (i + 1) = b + 1 + i by omega]
                exact this
            · cases i with
              | zero =>
                simp only [List.getD_cons_succ, List.getD_cons_zero]
                exact ⟨hm, h3, ih.hd⟩
              | succ i =>
                have := ih.nxt i (by simpa using hi)
                simp only [List.getD_cons_succ]
                rw [show b + (i + 1) = b + 1 + i by omega]
                exact this
        · rw [goodL_full hm h3] at h; cases h
theorem small_of : ∀ {o : Od}, NF o → mostO o ≤ 1000 → Small o
  | .nil, _, _ => trivial
  | .cons e c r, h, hm => by
    obtain ⟨h1, h2, h3, h4⟩ := h
    simp only [mostO] at hm
    exact ⟨small_of h1 (by omega), ⟨h2, by omega⟩, small_of h3 (by omega)⟩
theorem rdA_lif {b m : Nat} (hb : 2 ≤ b) (hb2 : b ≤ 1000) (h : bigT (lif b m) = false) : rdA (txO (lif b m)) = some (lif b m) := by
  have h1 := lif_NF hb m m (Nat.le_refl _)
  have h2 := lif_most hb m m (Nat.le_refl _)
  have h3 := of_decide_eq_false h
  exact rdA_tx h1 (small_of h1 (by omega)) (by omega)
/-- The ordinals descend. -/
theorem good_down {b n : Nat} (hb : 2 ≤ b) (hn : n ≠ 0) : cmpO (lif (b + 1) (bmp b n - 1)) (lif b n) = -1 := by
  have h1 := le_bmp hb n
  have h2 := lif_mono (b := b + 1) (by omega) (bmp b n) (bmp b n - 1) (bmp b n) (Nat.le_refl _) (by omega)
  rw [lif_bmp hb n n (Nat.le_refl _)] at h2
  exact h2
end Go.Proofs.YtcmjlmnfdncajaaGreatDoor.TW
/- Plain: the blend is associative and grows; the measure of a hydra, and how it falls. -/
namespace Go.Proofs.YtcmjlmnfdncajaaGreatDoor.TW
theorem bl_gt {ae ar X : Od} {ac : Nat} (h : HdLt ae X) : blO (.cons ae ac ar) X = .cons ae ac (blO ar X) := by
  cases X with
  | nil => rw [blO_nil, blO_nil]
  | cons be bc br => rw [blO_cons, if_pos (gt_lt.2 h)]
theorem bl_gtc {ae ar be br : Od} {ac bc : Nat} (h : ltO be ae) : blO (.cons ae ac ar) (.cons be bc br) = .cons ae ac (blO ar (.cons be bc br)) := bl_gt (X := .cons be bc br) h
theorem bl_lt {ae ar be br : Od} {ac bc : Nat} (h : ltO ae be) : blO (.cons ae ac ar) (.cons be bc br) = .cons be bc (blO (.cons ae ac ar) br) := by
  have h' : cmpO ae be = -1 := h
  rw [blO_cons, if_neg (by omega), if_pos h']
theorem bl_eq {e ar br : Od} {ac bc : Nat} : blO (.cons e ac ar) (.cons e bc br) = .cons e (ac + bc) (blO ar br) := by
  rw [blO_cons, cmp_self, if_neg (by omega), if_neg (by omega)]
theorem bl_assoc : ∀ (a b c : Od), blO (blO a b) c = blO a (blO b c)
  | .nil, b, c => rfl
  | .cons ae ac ar, .nil, c => by rw [blO_nil]; rfl
  | .cons ae ac ar, .cons be bc br, .nil => by rw [blO_nil, blO_nil]
  | .cons ae ac ar, .cons be bc br, .cons ce cc cr => by
    rcases tri ae be with h | h | h
    · rw [bl_lt h]
      rcases tri be ce with k | k | k
      · rw [bl_lt k, bl_lt k, bl_lt (lt_trans h k), ← bl_assoc (.cons ae ac ar) (.cons be bc br) cr, bl_lt h]
      · subst k
        rw [bl_eq, bl_eq, bl_lt h, bl_assoc (.cons ae ac ar) br cr]
      · rw [bl_gtc k, bl_gtc k, bl_lt h, bl_assoc (.cons ae ac ar) br (.cons ce cc cr)]
    · subst h
      rw [bl_eq]
      rcases tri ae ce with k | k | k
      · rw [bl_lt k, bl_lt k, bl_lt k, ← bl_assoc (.cons ae ac ar) (.cons ae bc br) cr, bl_eq]
      · subst k
        rw [bl_eq, bl_eq, bl_eq, bl_assoc ar br cr, Nat.add_assoc]
      · rw [bl_gtc k, bl_gtc k, bl_eq, bl_assoc ar br (.cons ce cc cr)]
    · rw [bl_gtc h]
      rcases tri ae ce with k | k | k
      · rw [bl_lt k, bl_lt (lt_trans h k), bl_lt k, ← bl_assoc (.cons ae ac ar) (.cons be bc br) cr, bl_gtc h]
      · subst k
        rw [bl_eq, bl_lt h, bl_eq, bl_assoc ar (.cons be bc br) cr]
      · rw [bl_gtc k, bl_gt (bl_hd (e := ae) (a := .cons be bc br) (b := .cons ce cc cr) h k), bl_assoc ar (.cons be bc br) (.cons ce cc cr)]
  termination_by a b c => SizeOf.sizeOf a + SizeOf.sizeOf b + SizeOf.sizeOf c
theorem bl_ne_nil {a b : Od} (h : a ≠ .nil) : blO a b ≠ .nil := by
  cases a with
  | nil => exact absurd rfl h
  | cons ae ac ar =>
    cases b with
    | nil => rw [blO_nil]; exact h
    | cons be bc br =>
      rw [blO_cons]
      split
      · simp
      · split <;> simp
theorem bl_mono : ∀ {a b c : Od}, NF b → ltO a b → ltO (blO a c) (blO b c)
  | a, b, .nil, _, h => by rw [blO_nil, blO_nil]; exact h
  | a, .nil, _, _, h => absurd h lt_nil
  | .nil, .cons be bc br, .cons ce cc cr, hb, h => by
    show ltO (.cons ce cc cr) _
    rcases tri be ce with k | k | k
    · rw [bl_lt k]
      refine lt_cons.2 (.inr ⟨rfl, .inr ⟨rfl, ?_⟩⟩)
      exact bl_mono (a := .nil) hb h
    · subst k
      rw [bl_eq]
      exact lt_cons.2 (.inr ⟨rfl, .inl (by have := hb.2.1; omega)⟩)
    · rw [bl_gtc k]
      exact lt_cons.2 (.inl k)
  | .cons ae ac ar, .cons be bc br, .cons ce cc cr, hb, h => by
    rcases lt_cons.1 h with h1 | ⟨h1, h2⟩
    · rcases tri be ce with k | k | k
      · rw [bl_lt k, bl_lt (lt_trans h1 k)]
        exact lt_cons.2 (.inr ⟨rfl, .inr ⟨rfl, bl_mono hb h⟩⟩)
      · subst k
        rw [bl_eq, bl_lt h1]
        exact lt_cons.2 (.inr ⟨rfl, .inl (by have := hb.2.1; omega)⟩)
      · rw [bl_gtc k]
        have hh : HdLt be (blO (.cons ae ac ar) (.cons ce cc cr)) := bl_hd (a := .cons ae ac ar) (b := .cons ce cc cr) h1 k
        cases hx : blO (.cons ae ac ar) (.cons ce cc cr) with
        | nil => exact nil_lt
        | cons xe xc xr => rw [hx] at hh; exact lt_cons.2 (.inl hh)
    · subst h1
      rcases tri ae ce with k | k | k
      · rw [bl_lt k, bl_lt k]
        exact lt_cons.2 (.inr ⟨rfl, .inr ⟨rfl, bl_mono hb h⟩⟩)
      · subst k
        rw [bl_eq, bl_eq]
        rcases h2 with h2 | ⟨h2, h3⟩
        · exact lt_cons.2 (.inr ⟨rfl, .inl (by omega)⟩)
        · exact lt_cons.2 (.inr ⟨rfl, .inr ⟨by omega, bl_mono hb.2.2.1 h3⟩⟩)
      · have k' : HdLt ae (.cons ce cc cr) := k
        rw [bl_gt k', bl_gt k']
        rcases h2 with h2 | ⟨h2, h3⟩
        · exact lt_cons.2 (.inr ⟨rfl, .inl (by omega)⟩)
        · exact lt_cons.2 (.inr ⟨rfl, .inr ⟨by omega, bl_mono hb.2.2.1 h3⟩⟩)
  termination_by a b c => SizeOf.sizeOf a + SizeOf.sizeOf b + SizeOf.sizeOf c
theorem bl_sizes : ∀ (a b : Od), szO (blO a b) ≤ szO a + szO b ∧ szO a ≤ szO (blO a b) ∧ szO b ≤ szO (blO a b) ∧ topO (blO a b) ≤ topO a + topO b ∧ exM (blO a b) = max (exM a) (exM b) ∧ topO a ≤ topO (blO a b) ∧ topO b ≤ topO (blO a b)
  | .nil, b => by simp only [blO, szO, topO, exM]; omega
  | .cons ae ac ar, .nil => by simp only [blO_nil, szO, topO, exM]; omega
  | .cons ae ac ar, .cons be bc br => by
    rcases tri ae be with h | h | h
    · rw [bl_lt h]
      have := bl_sizes (.cons ae ac ar) br
      simp only [szO, topO, exM] at this ⊢
      omega
    · subst h
      rw [bl_eq]
      have := bl_sizes ar br
      simp only [szO, topO, exM] at this ⊢
      omega
    · rw [bl_gtc h]
      have := bl_sizes ar (.cons be bc br)
      simp only [szO, topO, exM] at this ⊢
      omega
  termination_by a b => SizeOf.sizeOf a + SizeOf.sizeOf b
/-- The ordinal of a hydra. -/
def msF : Fo → Od
  | .nil => .nil
  | .cons k r => blO (.cons (msF k) 1 .nil) (msF r)
theorem ms_NF : ∀ f, NF (msF f)
  | .nil => trivial
  | .cons k r => bl_NF (a := .cons (msF k) 1 .nil) ⟨ms_NF k, Nat.one_pos, trivial, trivial⟩ (ms_NF r)
theorem ms_sizes : ∀ f, szO (msF f) ≤ szF f ∧ mostO (msF f) ≤ szF f
  | .nil => ⟨Nat.le_refl _, Nat.le_refl _⟩
  | .cons k r => by
    have h1 := ms_sizes k
    have h2 := ms_sizes r
    have h3 := bl_sizes (.cons (msF k) 1 .nil) (msF r)
    have h4 := most_eq (blO (.cons (msF k) 1 .nil) (msF r))
    have h5 := most_eq (msF r)
    simp only [msF, szF, szO, topO, exM] at *
    omega
theorem ms_rep : ∀ (n c : Nat) (k r : Fo), 0 < c → blO (.cons (msF k) c .nil) (msF (repF n k r)) = blO (.cons (msF k) (c + n) .nil) (msF r)
  | 0, c, k, r, _ => rfl
  | n + 1, c, k, r, h => by
    have e : msF (repF (n + 1) k r) = blO (.cons (msF k) 1 .nil) (msF (repF n k r)) := rfl
    rw [e, ← bl_assoc, bl_eq, blO_nil, ms_rep n (c + 1) k r (by omega)]
    rw [show c + 1 + n = c + (n + 1) by omega]
theorem heF_pos : ∀ {f : Fo}, f ≠ .nil → 1 ≤ heF f
  | .nil, h => absurd rfl h
  | .cons k r, _ => by simp only [heF]; omega
theorem bl_mono' {a b c : Od} (hb : NF b) (h : ltO a b) : ltO (blO c a) (blO c b) := by
  rw [bl_comm c a, bl_comm c b]; exact bl_mono hb h
theorem one_NF {e : Od} (h : NF e) : NF (.cons e 1 .nil) := ⟨h, Nat.one_pos, trivial, trivial⟩
theorem chop_lt : ∀ {f : Fo} {head n : Nat}, head < heF f → ltO (msF (chF f head n).1) (msF f)
  | .nil, head, n, h => by simp [heF] at h
  | .cons k r, head, n, h => by
    by_cases hp : max 1 (heF k) ≤ head
    · rw [chF_past hp]
      have ih := chop_lt (f := r) (head := head - max 1 (heF k)) (n := n) (by simp only [heF] at h; omega)
      exact bl_mono' (ms_NF r) ih
    · by_cases hk : k = .nil
      · subst hk
        have h0 : head = 0 := by simp only [heF] at hp; omega
        subst h0
        rw [chF_head]
        have := bl_mono (a := .nil) (b := .cons .nil 1 .nil) (c := msF r) (one_NF trivial) nil_lt
        exact this
      · rw [chF_in hp hk]
        have h1 := heF_pos hk
        have ih := chop_lt (f := k) (head := head) (n := n) (by omega)
        have hm : ∀ c, ltO (.cons (msF (chF k head n).1) c .nil) (.cons (msF k) 1 .nil) := fun c => lt_cons.2 (.inl ih)
        show ltO (blO (.cons (msF (chF k head n).1) 1 .nil) (msF (if (chF k head n).2 = true then repF n (chF k head n).1 r else r))) (blO (.cons (msF k) 1 .nil) (msF r))
        split
        · rw [ms_rep n 1 _ _ (by omega)]
          exact bl_mono (one_NF (ms_NF k)) (hm _)
        · exact bl_mono (one_NF (ms_NF k)) (hm _)
/-- One node fewer, and some more for each copy. -/
theorem chop_sz : ∀ {f : Fo} {head : Nat}, head < heF f → ∃ d b, ∀ n, (chF f head n).2 = b ∧ szF (chF f head n).1 + 1 = szF f + n * d ∧ (b = true → d = 0)
  | .nil, head, h => by simp [heF] at h
  | .cons k r, head, h => by
    by_cases hp : max 1 (heF k) ≤ head
    · obtain ⟨d, b, ih⟩ := chop_sz (f := r) (head := head - max 1 (heF k)) (by simp only [heF] at h; omega)
      refine ⟨d, b, fun n => ?_⟩
      rw [chF_past hp]
      obtain ⟨h1, h2, h3⟩ := ih n
      exact ⟨h1, by simp only [szF]; omega, h3⟩
    · by_cases hk : k = .nil
      · subst hk
        have h0 : head = 0 := by simp only [heF] at hp; omega
        subst h0
        refine ⟨0, true, fun n => ?_⟩
        rw [chF_head]
        exact ⟨rfl, by simp only [szF]; omega, fun _ => rfl⟩
      · have h1 := heF_pos hk
        obtain ⟨d, b, ih⟩ := chop_sz (f := k) (head := head) (by omega)
        cases b with
        | true =>
          refine ⟨szF k, false, fun n => ?_⟩
          rw [chF_in hp hk]
          obtain ⟨h1, h2, h3⟩ := ih n
          have h4 := h3 rfl
          subst h4
          refine ⟨rfl, ?_, fun h => by cases h⟩
          rw [h1, if_pos rfl]
          simp only [szF, repF_sz]
          rw [show 1 + szF (chF k head n).1 = szF k by omega]
          omega
        | false =>
          refine ⟨d, false, fun n => ?_⟩
          rw [chF_in hp hk]
          obtain ⟨h1, h2, h3⟩ := ih n
          refine ⟨rfl, ?_, fun h => by cases h⟩
          rw [h1, if_neg (by simp)]
          simp only [szF]
          omega
end Go.Proofs.YtcmjlmnfdncajaaGreatDoor.TW
/- append of zeros, elements of two cells. -/
namespace Go.Proofs.YtcmjlmnfdncajaaGreatDoor.VW
open Go Go.RowKit
section
variable {P : Program} [hT : Tab P] {n : Nat} {ds : List Deferred} {Φ : Post} {k : List It} {ρ : E} {w : World} {all : Array Oper} {l : List Oper} {md : Option (List Oper)}
theorem Ops.appZ2 {o : Oper} {d t u e by' : Nat} {x y : Operand} {z : Value} {i : Int} {kk : IntKind} (ho : o.op = .call { callee := .builtin .append, args := #[x, y], argTypes := #[t, u] }) (hd : o.dst = some d) (hg : o.guard = none)
    (ht : tyD P t = some (.slice e)) (hu : tyD P u = some (.int kk)) (hs : tyS P e = some 2) (hb : tyB P e = some (by' + 1)) (hz : tyZ P e = some z) (hzs : z.cells.size = 2) (hx : ev ρ x = some (.slice none 0 0)) (hy : ev ρ y = some (.int .i64 i)) (h0 : 0 < i) (h1 : i.toNat * (by' + 1) ≤ 140737488355328)
    (hk : ∀ r c w', w.heap.size ≤ r → i.toNat ≤ c → w'.ownsRow 0 e 2 (.slice (some ⟨r, 0, none⟩) 0 c) 0 [] → Kp (fun _ => False) w w' → Ops none P n ds all k Φ l ((d, .slice (some ⟨r, 0, none⟩) i.toNat c) :: ρ) w') : Ops none P n ds all k Φ (o :: l) ρ w := by
  obtain ⟨f, hi, h2, h3, h4⟩ := tyE_ok hs hb hz
  obtain ⟨m, rfl⟩ := Int.eq_ofNat_of_zero_le (Int.le_of_lt h0)
  simp only [Int.toNat_natCast] at h1 hk
  have hm : 0 < m := by omega
  have h5 : m ≤ m * (by' + 1) := Nat.le_mul_of_pos_right m (by omega)
  have h63 : (m : Int) ≤ 9223372036854775807 := by omega
  have hw : IntKind.i64.wrap (m : Int) = m := wrap_in ⟨by omega, h63⟩
  have hge : m ≤ grownCap w m 0 e := grownCap_ge w m 0 e
  have hle : grownCap w m 0 e ≤ maxLen := grownCap_le_maxLen w m 0 e (by simp only [maxLen]; omega)
  have hnb : ¬ (281474976710656 < (m : Int) * f.bytes) := by
    rw [h3]
    have : ((m * (by' + 1) : Nat) : Int) ≤ 281474976710656 := by omega
    push_cast at this
    push_cast
    omega
  have hnc : ¬ (281474976710656 < Builtin.nextslicecap m 0 * f.bytes) := by rw [nextslicecap_zero hm, h3]; omega
  have hn0 : ¬ (m = 0) := by omega
  have hnz : ¬ ((m : Int) < 0) := by omega
  have hn63 : ¬ (9223372036854775807 < (m : Int)) := by omega
  have hfn : (Builtin.firstCells f.size 0 (.slice none 0 0)).run P w.drew = .ok #[] w.drew := by simp [Builtin.firstCells]
  refine Ops.val hd hg (w' := w.drew.alloc (.cells (Builtin.zeroCells z.cells m ++ Builtin.zeroCells z.cells (grownCap w m 0 e - m)) e)) (v := .slice (some ⟨w.heap.size, 0, none⟩) m (grownCap w m 0 e)) (fun a hr => ?_) (hk _ _ _ (Nat.le_refl _) hge ?_ ?_)
  · simp [execOp, ho, resolve, invoke, builtin, hr.ev hx, hr.ev hy, Builtin.append_, run_und (td_slice (tyD_ok ht)), run_und (td_int (tyD_ok hu)), sizeOf, typeInfo, zeroValue, hi, h4, asInt, asIntOf, hw, hnb, hnc, hn0, hnz, hn63, Question.forced, newRow, grownCap, h2]
    rw [h2] at hfn
    rw [hfn]
    simp
    intro h
    omega
  · refine ⟨rfl, .inr ⟨w.heap.size, _, _, rfl, Nat.zero_le _, heap_alloc_new w.drew _, Nat.zero_le _, hle, ?_, rfl⟩⟩
    simp only [Array.size_append, size_zeroCells, hzs]
    omega
  · exact ⟨rfl, rfl, rfl, by simp, fun i hi _ => Below.heap_alloc w.drew _ i hi⟩
end
end Go.Proofs.YtcmjlmnfdncajaaGreatDoor.VW
namespace Go.Proofs.YtcmjlmnfdncajaaGreatDoor
open Go Go.RowKit Go.Proofs.YtcmjlmnfdncajaaGreatDoor.VW Go.Proofs.YtcmjlmnfdncajaaGreatDoor.TW
attribute [local irreducible] W Ops OrdA VW.Ord OrdX Wi OpsI OrdF
theorem growP_c {w : World} (i : Int) (h0 : 0 ≤ i) (h1 : i ≤ 1000000) : Calls Tryz.prog 131 #[.slice none 0 0, .int .i64 i] w (Ret fun r w' => PO w.heap.size w' r [] ∧ Below w.heap.size w w') := by
  refine calls_W (vs := [_, _]) Tryz.func131 rfl (by kernel_rfl) rfl ?_
  (repeat (first | with_reducible refine W.seq ?_ | with_reducible refine Ops.nil ?_ | with_reducible refine W.region ?_ | refine z_p (kk := ?_)))
  refine W.condF rfl (by first | rfl | assumption | (simp only [bnf] <;> omega) | (simp only [*, bnf]; done) | fail) ?_
  (repeat (first | with_reducible refine W.seq ?_ | with_reducible refine W.region ?_ | refine z_p (kk := ?_) | with_reducible refine W.skip ?_))
  refine Ops.cap rfl rfl rfl rfl rfl ?_
  (repeat (first | with_reducible refine W.seq ?_ | with_reducible refine Ops.nil ?_ | with_reducible refine W.region ?_ | refine z_p (kk := ?_) | refine z_a (kk := ?_) | refine z_l (kk := ?_)))
  by_cases hp : 0 < i
  · refine W.condT rfl (by first | (simp; done) | (simp; omega)) ?_
    (repeat (first | with_reducible refine W.region ?_ | refine z_p (kk := ?_)))
    refine Ops.cap rfl rfl rfl rfl rfl ?_
    refine Ops.slH rfl rfl rfl rfl rfl rfl rfl (by simp) (by simp) ?_
    (repeat (first | refine z_p (kk := ?_)))
    refine Ops.appZ2 rfl rfl rfl rfl rfl rfl rfl rfl rfl rfl rfl (by omega) (by omega) (fun r c w1 hr hcap hown k1 => ?_)
    have hb1 : Below w.heap.size w w1 := k1.below (Nat.le_refl _) (fun _ _ e => e)
    (repeat (first | refine z_p (kk := ?_) | refine z_l (kk := ?_)))
    refine Ops.slH rfl rfl rfl rfl rfl rfl rfl (by simp) (by simp) ?_
    (repeat (first | with_reducible refine W.seq ?_ | with_reducible refine Ops.nil ?_ | with_reducible refine W.region ?_ | refine z_p (kk := ?_)))
    refine W.fret rfl ⟨⟨hb1.size, tr_bel hb1.size, hown, fun k hk => ?_⟩, hb1⟩
    simp [resV, Value.ownBlock] at hk
    rw [tr_size hb1.size]
    omega
  · refine W.condF rfl (by first | (simp; done) | (simp; omega)) ?_
    (repeat (first | with_reducible refine W.seq ?_ | with_reducible refine Ops.nil ?_ | with_reducible refine W.region ?_ | refine z_p (kk := ?_) | with_reducible refine W.skip ?_))
    exact W.fret rfl ⟨PO.nil (Nat.le_refl _), Below.refl _ _⟩
set_option maxHeartbeats 4000000 in
theorem concatP_c {S' : Nat → Prop} {w : World} {r c : Nat} {svs : List Value} {xss : List (List (Value × Nat))} (hB : Blk w r svs.toArray 84) (hl : svs.length = xss.length) (hs : ∀ j, j < xss.length → R2 S' w (svs.getD j undef) (xss.getD j [])) (h1c : ∀ l, l ∈ xss → ∀ p, p ∈ l → p.1.oneCell' = true) (hsum : xss.flatten.length ≤ 1000000) (hn : xss.length ≤ 1000) :
    Calls Tryz.prog 117 #[.slice (some ⟨r, 0, none⟩) xss.length c] w (Ret fun v w' => PO w.heap.size w' v xss.flatten ∧ Below w.heap.size w w') := by
  have hcell : ∀ (w' : World) j, Below w.heap.size w w' → j < xss.length → w'.cell? ((⟨r, 0, none⟩ : Addr).add (j * 1)) = some (svs.getD j undef) := by
    intro w' j hb hj
    rw [Nat.mul_one, add_lit, Nat.zero_add]
    refine (hB.kp (Kp.of_below (S := fun _ => False) hb) (fun e => e)).cell ?_
    simp [List.getD_eq_getElem?_getD, hl, hj]
  have hpre : ∀ j, j ≤ xss.length → (xss.take j).flatten.length ≤ 1000000 := by
    intro j hj
    have : xss.flatten.length = (xss.take j).flatten.length + (xss.drop j).flatten.length := by
      rw [← List.length_append, ← List.flatten_append, List.take_append_drop]
    omega
  have hstep : ∀ j, j < xss.length → (xss.take (j + 1)).flatten = (xss.take j).flatten ++ xss.getD j [] := by
    intro j hj
    rw [List.take_succ_eq_append_getElem hj, List.flatten_append]
    simp [List.getD_eq_getElem?_getD, hj]
  have hmem : ∀ j, j < xss.length → xss.getD j [] ∈ xss := fun j hj => by
    rw [List.getD_eq_getElem?_getD, List.getElem?_eq_getElem hj]
    exact List.getElem_mem hj
  refine calls_W (vs := [_]) Tryz.func117 rfl (by kernel_rfl) rfl ?_
  (repeat (first | with_reducible refine W.seq ?_ | with_reducible refine Ops.nil ?_ | with_reducible refine W.region ?_ | refine z_p (kk := ?_) | with_reducible refine W.block ?_ | refine z_l (kk := ?_)))
  refine W.loop (fun m ρ w1 => ∃ j : Nat, m = xss.length - j ∧ j ≤ xss.length ∧ ρ = [(0, .slice (some ⟨r, 0, none⟩) xss.length c), (3, .int .i64 ((xss.take j).flatten.length : Nat)), (9, .slice (some ⟨r, 0, none⟩) xss.length c), (10, .int .i64 xss.length), (11, .int .i64 j)] ∧ w1 = w)
    ⟨_, _, ⟨0, rfl, Nat.zero_le _, rfl, rfl⟩, (by repeat (first | exact trivial | refine And.intro rfl ?_))⟩ ?_
  rintro m ρ w1 ⟨j, rfl, hj, rfl, rfl⟩
  (repeat (first | with_reducible refine W.seq ?_ | with_reducible refine Ops.nil ?_ | with_reducible refine W.region ?_ | refine z_p (kk := ?_)))
  (first | refine W.condD rfl (fun hc => ?_) (fun hc => ?_) | refine W.condE rfl (fun hc => ?_) (fun hc => ?_) | refine W.condN rfl (fun hc => ?_) (fun hc => ?_) | refine W.cond rfl (fun hc => ?_) (fun hc => ?_))
  · have hlt : j < xss.length := by omega
    have hsj := hs j hlt
    obtain ⟨Aj, cj, ej⟩ := hsj.sh
    have hp1 := hpre (j + 1) (by omega)
    rw [hstep j hlt, List.length_append] at hp1
    (repeat (first | with_reducible refine W.seq ?_ | with_reducible refine W.region ?_ | with_reducible refine W.skip ?_ | with_reducible refine W.block ?_))
    refine Ops.idx rfl rfl rfl rfl rfl rfl rfl (by omega) (by omega) (Ops.ld rfl rfl rfl rfl rfl (hcell w1 j (Below.refl _ _) hlt) ?_)
    rw [ej]
    (repeat (first | with_reducible refine W.seq ?_ | with_reducible refine Ops.nil ?_ | with_reducible refine W.region ?_ | refine z_p (kk := ?_) | refine z_a (kk := ?_) | refine z_l (kk := ?_)))
    refine W.condF rfl (by first | (simp; done) | (simp; omega)) ?_
    (repeat (first | with_reducible refine Ops.nil ?_ | with_reducible refine W.region ?_ | refine z_p (kk := ?_) | refine z_a (kk := ?_) | with_reducible refine W.skip ?_ | with_reducible refine W.endb ?_))
    refine W.endl ⟨_, _, ⟨⟨j + 1, rfl, by omega, rfl, rfl⟩, by omega⟩, ⟨rfl, ?_, rfl, rfl, rfl, trivial⟩⟩
    rw [hstep j hlt, List.length_append]
    rfl
  · have hlt : j = xss.length := by omega
    subst hlt
    rw [List.take_length]
    (repeat (first | with_reducible refine W.seq ?_ | with_reducible refine W.region ?_ | refine z_p (kk := ?_) | refine W.exit rfl ?_))
    refine Ops.call rfl rfl rfl rfl rfl (growP_c _ (by omega) (by omega)) (fun v w2 hI => ?_)
    obtain ⟨hI, hb2⟩ := hI
    (repeat (first | with_reducible refine W.seq ?_ | with_reducible refine Ops.nil ?_ | with_reducible refine W.region ?_ | refine z_p (kk := ?_) | with_reducible refine W.block ?_ | refine z_l (kk := ?_)))
    refine W.loop (fun m ρ w2 => ∃ (j : Nat) (v : Value), m = xss.length - j ∧ j ≤ xss.length ∧ ρ = [(6, v), (25, .slice (some ⟨r, 0, none⟩) xss.length c), (26, .int .i64 xss.length), (27, .int .i64 j)] ∧ PO w1.heap.size w2 v (xss.take j).flatten ∧ Below w1.heap.size w1 w2)
      ⟨_, _, ⟨0, v, rfl, Nat.zero_le _, rfl, hI, hb2⟩, (by repeat (first | exact trivial | refine And.intro rfl ?_))⟩ ?_
    rintro m ρ w2 ⟨j, v, rfl, hj, rfl, hI, hb2⟩
    (repeat (first | with_reducible refine W.seq ?_ | with_reducible refine Ops.nil ?_ | with_reducible refine W.region ?_ | refine z_p (kk := ?_)))
    (first | refine W.condD rfl (fun hc => ?_) (fun hc => ?_) | refine W.condE rfl (fun hc => ?_) (fun hc => ?_) | refine W.condN rfl (fun hc => ?_) (fun hc => ?_) | refine W.cond rfl (fun hc => ?_) (fun hc => ?_))
    · have hlt : j < xss.length := by omega
      have hp1 := hpre (j + 1) (by omega)
      rw [hstep j hlt, List.length_append] at hp1
      (repeat (first | with_reducible refine W.seq ?_ | with_reducible refine W.region ?_ | with_reducible refine W.skip ?_ | with_reducible refine W.block ?_))
      refine Ops.idx rfl rfl rfl rfl rfl rfl rfl (by omega) (by omega) (Ops.ld rfl rfl rfl rfl rfl (hcell w2 j hb2 hlt) ?_)
      (repeat (first | with_reducible refine Ops.nil ?_ | with_reducible refine W.region ?_ | refine z_p (kk := ?_)))
      refine Ops.appP rfl rfl rfl rfl rfl rfl rfl rfl rfl hI.2 ((hs j hlt).below hb2) (h1c _ (hmem j hlt)) (by omega) (fun v' w3 hO k3 hn3 => ?_)
      have hI3 := po_put hI (tr_size hI.1) hO k3.size
      rw [← hstep j hlt] at hI3
      (repeat (first | with_reducible refine Ops.nil ?_ | with_reducible refine W.region ?_ | refine z_p (kk := ?_) | refine z_a (kk := ?_) | with_reducible refine W.endb ?_))
      exact W.endl ⟨_, _, ⟨⟨j + 1, v', rfl, by omega, rfl, hI3, Below.put hb2 k3 (fun i hi => po_ge hI i hi)⟩, by omega⟩, (by repeat (first | exact trivial | refine And.intro rfl ?_))⟩
    · have hlt : j = xss.length := by omega
      subst hlt
      rw [List.take_length] at hI
      (repeat (first | with_reducible refine W.seq ?_ | with_reducible refine Ops.nil ?_ | with_reducible refine W.region ?_ | refine z_p (kk := ?_) | refine W.exit rfl ?_))
      exact W.fret rfl ⟨hI, hb2⟩
end Go.Proofs.YtcmjlmnfdncajaaGreatDoor
namespace Go.Proofs.YtcmjlmnfdncajaaGreatDoor
open Go Go.RowKit Go.Proofs.YtcmjlmnfdncajaaGreatDoor.VW Go.Proofs.YtcmjlmnfdncajaaGreatDoor.TW
attribute [local irreducible] W Ops OrdA VW.Ord OrdX Wi OpsI OrdF
/-- A list of parts in memory: the first one and the others. -/
theorem OA_cons {S : Nat → Prop} {w : World} {o : Od} {l : List (Value × Nat)} (h : OA S w o l) (hp : 0 < l.length) : ∃ e c r v l', o = .cons e c r ∧ l = (v, c) :: l' ∧ OM S w v e ∧ OA S w r l' := by
  cases o with
  | nil =>
    have : l = [] := h
    subst this
    simp at hp
  | cons e c r =>
    obtain ⟨v, l', le, h1, h2, h3, h4⟩ := h
    exact ⟨e, c, r, v, l', rfl, h1, ⟨le, h2, h3⟩, h4⟩
theorem OA_nil {S : Nat → Prop} {w : World} {o : Od} {l : List (Value × Nat)} (h : OA S w o l) (hp : l.length = 0) : o = .nil := by
  have := h.len
  exact lenO_zero.1 (by omega)
set_option maxHeartbeats 8000000 in
theorem blend_c {S' : Nat → Prop} {w : World} {va vb : Value} {a b : Od} (hS : ∀ i, S' i → i < w.heap.size) (hA : OM S' w va a) (hB : OM S' w vb b) (hza : szO a ≤ 100000) (hzb : szO b ≤ 100000) (hta : topO a ≤ 10000000) (htb : topO b ≤ 10000000) :
    Calls Tryz.prog 96 #[va, vb] w (RetP (fun r w' => bigT (blO a b) = false ∧ OM S' w' r (blO a b) ∧ Below w.heap.size w w') (fun ch w' => ch = trb 5 ∧ bigT (blO a b) = true ∧ Below w.heap.size w w')) := by
  have hsz := bl_sizes a b
  have hlz := len_le_sz (blO a b)
  obtain ⟨la, hRa, hAa⟩ := hA
  obtain ⟨lb, hRb, hAb⟩ := hB
  have hla := hAa.len
  have hlb := hAb.len
  have hza' := len_le_sz a
  have hzb' := len_le_sz b
  obtain ⟨Aa, ca, rfl⟩ := hRa.sh
  obtain ⟨Ab, cb, rfl⟩ := hRb.sh
  refine calls_WP (vs := [_, _]) Tryz.func96 rfl (by kernel_rfl) rfl ?_
  (repeat (first | with_reducible refine W.seq ?_ | with_reducible refine Ops.nil ?_ | with_reducible refine W.region ?_ | refine z_p (kk := ?_) | with_reducible refine W.block ?_))
  refine W.loop (fun m ρ w3 => ∃ (a' b' acc : Od) (la' lb' l : List (Value × Nat)) (Aa Ab : Option Addr) (ca cb : Nat) (ov : Value), m = la'.length + lb'.length ∧ ρ = [(0, .slice Aa la'.length ca), (1, .slice Ab lb'.length cb), (5, ov)] ∧
      Below w.heap.size w w3 ∧ PO w.heap.size w3 ov l ∧ OA S' w acc l ∧ R2 S' w (.slice Aa la'.length ca) la' ∧ R2 S' w (.slice Ab lb'.length cb) lb' ∧ OA S' w a' la' ∧ OA S' w b' lb' ∧ blO a b = appO acc (blO a' b') ∧ lenO acc + lenO a' + lenO b' ≤ 200000 ∧ topO a' ≤ 10000000 ∧ topO b' ≤ 10000000)
    ⟨_, _, ⟨a, b, .nil, la, lb, [], _, _, _, _, _, rfl, rfl, Below.refl _ _, PO.nil (by omega), rfl, hRa, hRb, hAa, hAb, rfl, by simp only [lenO]; omega, hta, htb⟩, (by repeat (first | exact trivial | refine And.intro rfl ?_))⟩ ?_
  clear hRa hRb hAa hAb
  rintro m ρ w3 ⟨a', b', acc, la', lb', l, Aa, Ab, ca, cb, ov, rfl, rfl, hb03, hP, hAc, hRa, hRb, hAa, hAb, heq, hlen, ha', hb'⟩
  have hPs := hP.1
  have hlac := hAc.len
  have hlaa := hAa.len
  have hlbb := hAb.len
  have hb33 : Below w3.heap.size w3 w3 := Below.refl _ _
  by_cases hgo : 0 < la'.length ∧ 0 < lb'.length
  · obtain ⟨hg1, hg2⟩ := hgo
    obtain ⟨ae, ac, ar, ve, la2, rfl, rfl, hEa, hAr⟩ := OA_cons hAa hg1
    obtain ⟨be, bc, br, vf, lb2, rfl, rfl, hEb, hBr⟩ := OA_cons hAb hg2
    have ha1 := hEa.one
    have hb1 := hEb.one
    have hRa3 := hRa.below hb03
    have hRb3 := hRb.below hb03
    simp only [topO] at ha' hb'
    have hl1 : ((ve, ac) :: la2).length = la2.length + 1 := rfl
    have hl2 : ((vf, bc) :: lb2).length = lb2.length + 1 := rfl
    simp only [lenO] at hlen
    have hda := hRa.slD (q := 1) (by simp)
    have hdb := hRb.slD (q := 1) (by simp)
    simp only [List.drop_succ_cons, List.drop_zero] at hda hdb
    obtain ⟨A2, c2, hv2⟩ := hda.sh
    obtain ⟨B2, d2, hw2⟩ := hdb.sh
    (repeat (first | with_reducible refine W.seq ?_ | with_reducible refine Ops.nil ?_ | with_reducible refine W.region ?_ | refine z_p (kk := ?_) | refine z_y (kk := ?_) | refine z_l (kk := ?_) | refine z_h (kk := ?_)))
    refine W.condT rfl (by first | rfl | (simp; done) | (simp; omega)) ?_
    (repeat (first | with_reducible refine W.seq ?_ | with_reducible refine W.skip ?_ | with_reducible refine W.block ?_))
    refine W.ordA 99 [(0, 1), (1, 1), (2, 1), (3, 2), (4, 1), (5, 1), (6, 1), (7, 2), (8, 2)] rfl (by kernel_rfl) rfl (by kernel_rfl) (fun _ _ _ h => h) ?_
    (repeat (first | refine x_p (kk := ?_) | refine x_R0 (kk := fun _ _ => ?_)))
    refine OrdA.call rfl rfl rfl rfl rfl rfl rfl (fun w' hw' => Calls.via hw' (compare_c _ (Nat.le_refl _) (hEa.below (Below.via hb03 hw')) (hEb.below (Below.via hb03 hw')))) ?_
    refine OrdA.nil (fun w5 hb35 => ?_)
    have hb05 := Below.via hb03 hb35
    have hb55 : Below w5.heap.size w5 w5 := Below.refl _ _
    have hP5 := po_kp hP (kpF hb35) (fun _ _ e => e)
    have hRa5 := hRa.below hb05
    have hRb5 := hRb.below hb05
    clear hRa3 hRb3 hb33
    (repeat (first | with_reducible refine W.seq ?_ | with_reducible refine Ops.nil ?_ | with_reducible refine W.region ?_ | refine z_p (kk := ?_) | with_reducible refine W.block ?_))
    rcases cmp_rng ae be with hx | hx | hx
    · rw [blO_cons, if_neg (by omega), if_pos hx, appO_cons_snoc] at heq
      rw [hx]
      refine W.condF rfl (by first | rfl | assumption | (simp only [bnf] <;> omega) | (simp only [*, bnf]; done) | fail) ?_
      (repeat (first | with_reducible refine W.seq ?_ | with_reducible refine Ops.nil ?_ | with_reducible refine W.region ?_ | refine z_p (kk := ?_)))
      refine W.condT rfl (by first | rfl | assumption | (simp only [bnf] <;> omega) | (simp only [*, bnf]; done) | fail) ?_
      (repeat (first | with_reducible refine W.seq ?_ | with_reducible refine W.region ?_ | refine z_p (kk := ?_) | refine z_R2 (kk := fun _ => ?_)))
      refine Ops.pushP (fa := pA) (fb := pB) (z := (vf, bc)) rfl rfl rfl rfl rfl rfl rfl rfl rfl rfl rfl (fun _ => rfl) hb1 rfl hP5.2 (by omega) (fun lv' p w7 hO7 k7 hn7 => ?_)
      have hP7 := po_put hP5 (tr_size hP5.1) hO7 k7.size
      have hAs := OA_snoc (c := bc) hEb hAc
      have hls : lenO (snocO acc be bc) = lenO acc + 1 := by unfold snocO; rw [lenO_app]; rfl
      (repeat (first | with_reducible refine Ops.nil ?_ | with_reducible refine W.region ?_ | refine z_p (kk := ?_)))
      refine z_ev (EV.slP (q := 1) rfl rfl rfl rfl rfl (by omega)) (kk := ?_)
      rw [show ((vf, bc) :: lb2).length = lb2.length + 1 from rfl] at hw2 hdb ⊢
      rw [hw2] at hdb ⊢
      (repeat (first | with_reducible refine Ops.nil ?_ | refine z_p (kk := ?_) | with_reducible refine W.endb ?_))
      exact W.endl ⟨_, _, ⟨⟨.cons ae ac ar, br, snocO acc be bc, (ve, ac) :: la2, lb2, l ++ [(vf, bc)], Aa, B2, ca, d2, lv', rfl, rfl, Below.put hb05 k7 (fun j hj => po_ge hP5 j hj), hP7, hAs, hRa, hdb, hAa, hBr, heq, by simp only [lenO]; omega, by simp only [topO]; omega, by omega⟩, by simp⟩, (by repeat (first | exact trivial | refine And.intro rfl ?_))⟩
    · rw [blO_cons, if_neg (by omega), if_neg (by omega), appO_cons_snoc] at heq
      rw [hx]
      refine W.condF rfl (by first | rfl | assumption | (simp only [bnf] <;> omega) | (simp only [*, bnf]; done) | fail) ?_
      (repeat (first | with_reducible refine W.seq ?_ | with_reducible refine Ops.nil ?_ | with_reducible refine W.region ?_ | refine z_p (kk := ?_)))
      refine W.condF rfl (by first | rfl | assumption | (simp only [bnf] <;> omega) | (simp only [*, bnf]; done) | fail) ?_
      (repeat (first | with_reducible refine W.seq ?_))
      refine W.ordA 15 [(0, 1), (1, 1), (2, 1), (3, 1), (4, 2), (5, 1), (6, 1), (7, 1), (8, 2), (9, 1), (10, 1), (11, 1), (12, 2), (13, 1), (14, 1), (15, 0), (16, 0), (17, 1)] rfl (by kernel_rfl) rfl (by kernel_rfl) (fun _ _ _ h => h) ?_
      (repeat (first | refine x_p (kk := ?_) | refine x_R0 (kk := fun _ _ => ?_) | refine x_R1 (kk := fun _ _ => ?_)))
      rw [show (((ve, ac) :: la2).getD 0 default).2 = ac from rfl, show (((vf, bc) :: lb2).getD 0 default).2 = bc from rfl]
      (repeat (first | refine x_a (kk := ?_)))
      rw [show ((ac : Nat) : Int) + ((bc : Nat) : Int) = ((ac + bc : Nat) : Int) by omega]
      refine x_ev rfl (fun _ => EV.bld2 rfl rfl rfl rfl rfl ha1 rfl) (kk := ?_)
      refine OrdA.tail (fun w6 hb6 => ?_)
      have hb06 := Below.via hb05 hb6
      have hP6 := po_kp hP5 (kpF hb6) (fun _ _ e => e)
      refine VW.Ord.pushP (z := (ve, ac + bc)) rfl rfl rfl rfl rfl rfl rfl rfl rfl rfl rfl rfl rfl (fun _ => rfl) ha1 rfl hP6.2 (by omega) (fun lv' p w7 hO7 k7 hn7 => ?_)
      have hP7 := po_put hP6 (tr_size hP6.1) hO7 k7.size
      have hAs := OA_snoc (c := ac + bc) hEa hAc
      have hls : lenO (snocO acc ae (ac + bc)) = lenO acc + 1 := by unfold snocO; rw [lenO_app]; rfl
      (repeat (first | refine y_p (kk := ?_)))
      refine VW.Ord.nil ?_
      skip
      refine W.ordA 99 [(0, 1), (1, 1), (2, 1), (3, 1), (4, 1), (5, 1)] rfl (by kernel_rfl) rfl (by kernel_rfl) (fun _ _ _ h => h) ?_
      (repeat (first | refine x_p (kk := ?_)))
      refine x_ev rfl (fun _ => EV.slP (q := 1) rfl rfl rfl rfl rfl (by omega)) (kk := ?_)
      (repeat (first | refine x_p (kk := ?_)))
      refine x_ev rfl (fun _ => EV.slP (q := 1) rfl rfl rfl rfl rfl (by omega)) (kk := ?_)
      rw [show ((vf, bc) :: lb2).length = lb2.length + 1 from rfl] at hw2 hdb ⊢
      rw [show ((ve, ac) :: la2).length = la2.length + 1 from rfl] at hv2 hda ⊢
      rw [hw2] at hdb ⊢
      rw [hv2] at hda ⊢
      (repeat (first | refine x_p (kk := ?_)))
      refine OrdA.nil (fun w8 hb8 => ?_)
      have hb08 := Below.via (Below.put hb06 k7 (fun j hj => po_ge hP6 j hj)) hb8
      have hP8 := po_kp hP7 (kpF hb8) (fun _ _ e => e)
      (repeat (first | with_reducible refine W.endb ?_))
      exact W.endl ⟨_, _, ⟨⟨ar, br, snocO acc ae (ac + bc), la2, lb2, l ++ [(ve, ac + bc)], A2, B2, c2, d2, lv', rfl, rfl, hb08, hP8, hAs, hda, hdb, hAr, hBr, heq, by omega, by omega, by omega⟩, by first | omega | (simp; omega)⟩, (by repeat (first | exact trivial | refine And.intro rfl ?_))⟩
    · rw [blO_cons, if_pos hx, appO_cons_snoc] at heq
      rw [hx]
      refine W.condT rfl (by first | rfl | assumption | (simp only [bnf] <;> omega) | (simp only [*, bnf]; done) | fail) ?_
      (repeat (first | with_reducible refine W.seq ?_ | with_reducible refine W.region ?_ | refine z_p (kk := ?_) | refine z_R2 (kk := fun _ => ?_)))
      refine Ops.pushP (fa := pA) (fb := pB) (z := (ve, ac)) rfl rfl rfl rfl rfl rfl rfl rfl rfl rfl rfl (fun _ => rfl) ha1 rfl hP5.2 (by omega) (fun lv' p w7 hO7 k7 hn7 => ?_)
      have hP7 := po_put hP5 (tr_size hP5.1) hO7 k7.size
      have hAs := OA_snoc (c := ac) hEa hAc
      have hls : lenO (snocO acc ae ac) = lenO acc + 1 := by unfold snocO; rw [lenO_app]; rfl
      (repeat (first | with_reducible refine Ops.nil ?_ | with_reducible refine W.region ?_ | refine z_p (kk := ?_)))
      refine z_ev (EV.slP (q := 1) rfl rfl rfl rfl rfl (by omega)) (kk := ?_)
      rw [show ((ve, ac) :: la2).length = la2.length + 1 from rfl] at hv2 hda ⊢
      rw [hv2] at hda ⊢
      (repeat (first | with_reducible refine Ops.nil ?_ | refine z_p (kk := ?_) | with_reducible refine W.endb ?_))
      exact W.endl ⟨_, _, ⟨⟨ar, .cons be bc br, snocO acc ae ac, la2, (vf, bc) :: lb2, l ++ [(ve, ac)], A2, Ab, c2, cb, lv', rfl, rfl, Below.put hb05 k7 (fun j hj => po_ge hP5 j hj), hP7, hAs, hda, hRb, hAr, hAb, heq, by simp only [lenO]; omega, by omega, by simp only [topO]; omega⟩, by simp⟩, (by repeat (first | exact trivial | refine And.intro rfl ?_))⟩
  · have hor : la'.length = 0 ∨ lb'.length = 0 := by omega
    have heq' : blO a b = appO acc (appO a' (appO b' .nil)) := by
      rw [heq]
      rcases hor with h | h
      · rw [OA_nil hAa h, appO_nil]; rfl
      · rw [OA_nil hAb h, blO_nil]; show appO acc a' = appO acc (appO a' .nil); rw [appO_nil]
    have hl1 : la'.length ≠ 0 → lb'.length = 0 := by omega
    obtain ⟨Ao, co, hov⟩ := hP.2.sh
    have ho1 : ov.oneCell' = true := by rw [hov]; rfl
    have hRl : R2 S' w3 ov l := po_R2 hP (by omega) (fun j hj h => by have := po_ge hP j hj; have := hS j h; omega)
    have hRa3 := hRa.below hb03
    have hRb3 := hRb.below hb03
    have hOA := OA_app hAc (OA_app hAa hAb)
    rw [show appO acc (appO a' b') = blO a b by rw [heq', appO_nil]] at hOA
    have h1c : ∀ x, x ∈ [l, la', lb'] → ∀ p, p ∈ x → p.1.oneCell' = true := fun x hx => by
      simp only [List.mem_cons, List.not_mem_nil, or_false] at hx
      rcases hx with rfl | rfl | rfl
      · exact OA_one hAc
      · exact OA_one hAa
      · exact OA_one hAb
    by_cases hl0 : la'.length = 0
    all_goals (
      (repeat (first | with_reducible refine W.seq ?_ | with_reducible refine Ops.nil ?_ | with_reducible refine W.region ?_ | refine z_p (kk := ?_) | refine z_y (kk := ?_) | refine z_n (kk := ?_) | refine z_l (kk := ?_) | refine z_g (kk := ?_) | refine z_h (kk := ?_)))
      refine W.condF rfl (by first | rfl | (simp; done) | (simp [hl1 hl0]; done) | (simp; omega)) ?_
      (repeat (first | with_reducible refine W.seq ?_ | with_reducible refine W.region ?_ | refine z_p (kk := ?_) | refine W.exit rfl ?_))
      refine Ops.bsG (cs := #[ov, .slice Aa la'.length ca, .slice Ab lb'.length cb]) (vs := [(0, ov), (1, .slice Aa la'.length ca), (2, .slice Ab lb'.length cb)]) rfl rfl rfl rfl rfl rfl rfl rfl rfl (by rw [hov]; simp [Instr.fill, Value.cells, show Array.range 3 = #[0, 1, 2] from rfl]) (fun w4 r hM4 => ?_)
      have hb34 := Mk.bel hM4
      have hb04 := Below.via hb03 hb34
      refine Ops.call rfl rfl rfl rfl rfl (concatP_c (S' := S') (svs := [ov, .slice Aa la'.length ca, .slice Ab lb'.length cb]) (xss := [l, la', lb']) hM4.at_ rfl (fun j hj => by
        match j, hj with
        | 0, _ => exact hRl.below hb34
        | 1, _ => exact hRa3.below hb34
        | 2, _ => exact hRb3.below hb34) h1c (by simp; omega) (by simp)) (fun v5 w5 hR => ?_)
      obtain ⟨hP5, hb45⟩ := hR
      have hb05 := Below.via hb04 hb45
      have hs4 := hb04.size
      have hM5 : OM S' w5 v5 (blO a b) := by
        refine ⟨_, po_R2 hP5 (by simp; omega) (fun j hj h => by have := po_ge hP5 j hj; have := hS j h; omega), ?_⟩
        have := hOA.kp (Kp.of_below (S := fun _ => False) hb05) (fun _ e => e.elim)
        simpa using this
      refine Ops.callP rfl rfl rfl rfl rfl (checked_c hM5 (by omega)) (fun r w7 hR => ?_) (fun ch w7 hR => ?_)
      · obtain ⟨rfl, hbig, hb67⟩ := hR
        (repeat (first | with_reducible refine Ops.nil ?_ | refine z_p (kk := ?_)))
        exact W.fretP rfl ⟨hbig, hM5.below hb67, Below.via hb05 hb67⟩
      · obtain ⟨rfl, hbig, hb67⟩ := hR
        exact ⟨rfl, hbig, Below.via hb05 hb67⟩)
def blG (a b : Od) : Except Int Od := if bigT (blO a b) = true then .error 5 else .ok (blO a b)
theorem blend_fun : FunO 96 blG := ⟨rfl, fun {S' w va vb a b} hS hA hB na nb sa sb za zb => by
  have h1 := small_most sa
  have h2 := small_most sb
  have h3 := most_top a
  have h4 := most_top b
  have hsz := bl_sizes a b
  have h5 := most_eq (blO a b)
  have h6 := exM_le a
  have h7 := exM_le b
  refine (blend_c hS hA hB (by omega) (by omega) (by omega) (by omega)).mono fun e w' h => ?_
  rcases h with ⟨v, he, h5, h6, h7⟩ | ⟨ch, he, h5, h6, h7⟩
  · exact .inl ⟨v, he, blO a b, by unfold blG; rw [if_neg (by rw [h5]; simp)], h6, h7, by omega, by omega⟩
  · exact .inr ⟨ch, he, 5, h5, by unfold blG; rw [if_pos h6], h7⟩⟩
theorem Blend_c {w : World} {s t : List UInt8} (hs : s.length ≤ 4294967295) (ht : t.length ≤ 4294967295) (hT : Tbl w) :
    Calls Tryz.prog 50 #[S s, S t] w (Ret fun r w' => r = .tuple #[S (outS (bothR blG s t)), .int .i64 (outE (bothR blG s t))] ∧ Below w.heap.size w w') := by
  refine calls_W (vs := [_, _]) Tryz.func50 rfl (by kernel_rfl) rfl ?_
  (repeat (first | with_reducible refine W.seq ?_ | with_reducible refine Ops.nil ?_ | with_reducible refine W.region ?_ | refine z_p (kk := ?_)))
  refine Ops.call rfl rfl rfl rfl rfl (both_c blend_fun hs ht hT) (fun r w1 hR => ?_)
  obtain ⟨rfl, hb1⟩ := hR
  (repeat (first | with_reducible refine Ops.nil ?_ | refine z_p (kk := ?_)))
  exact W.fret rfl ⟨rfl, hb1⟩
end Go.Proofs.YtcmjlmnfdncajaaGreatDoor
namespace Go.Proofs.YtcmjlmnfdncajaaGreatDoor
open Go Go.RowKit Go.Proofs.YtcmjlmnfdncajaaGreatDoor.VW Go.Proofs.YtcmjlmnfdncajaaGreatDoor.TW
attribute [local irreducible] W Ops OrdA VW.Ord OrdX Wi OpsI OrdF
theorem one_lit {S' : Nat → Prop} {w w1 : World} {r c : Nat} {va : Value} {a : Od} (hS : ∀ i, S' i → i < w.heap.size) (hA : OM S' w va a) (hM : Mk w w1 r (.cells #[va, .int .i64 (c : Int)] 119)) : OM S' w1 (.slice (some ⟨r, 0, none⟩) 1 1) (.cons a c .nil) := by
  have e1 := hM.r_eq
  have B1 : Blk w1 r #[va, .int .i64 (c : Int)] 119 := hM.at_
  refine ⟨[(va, c)], ⟨_, _, rfl, ⟨Nat.le_refl _, by simp⟩, fun _ => ⟨_, rfl, fun h => by have := hS _ h; simp only at this; omega, fun j hj => ?_⟩⟩, ?_⟩
  · simp at hj
    subst hj
    exact ⟨B1.cell rfl, B1.cell rfl⟩
  · obtain ⟨le, h1, h2⟩ := hA
    exact ⟨va, [], le, rfl, h1.below (Mk.bel hM), h2.kp (kpF (Mk.bel hM)) (fun _ e => e.elim), rfl⟩
theorem big_l {a b : Od} (h : bigT a = true) : bigT (blO a b) = true := by
  have h1 := of_decide_eq_true h
  have h2 := bl_sizes a b
  exact decide_eq_true (by omega)
theorem big_r {a b : Od} (h : bigT b = true) : bigT (blO a b) = true := by
  have h1 := of_decide_eq_true h
  have h2 := bl_sizes a b
  exact decide_eq_true (by omega)
set_option maxHeartbeats 8000000 in
theorem rank_c : ∀ (n : Nat) {S' : Nat → Prop} {w : World} {v : Value} {f : Fo}, szF f ≤ n → n ≤ 1000 → (∀ i, S' i → i < w.heap.size) → HM S' w v f →
    Calls Tryz.prog 90 #[.iface 104 v] w (RetP (fun r w' => bigT (msF f) = false ∧ OM S' w' r (msF f) ∧ Below w.heap.size w w') (fun ch w' => ch = trb 5 ∧ bigT (msF f) = true ∧ Below w.heap.size w w')) := by
  intro n
  induction n using Nat.strongRecOn with
  | _ n ih =>
  intro S' w v f hn hbig hS hM
  obtain ⟨l, hR, hA⟩ := hM
  have hl := hA.len
  have hls := lenF_sz f
  obtain ⟨A, c, rfl⟩ := hR.sh
  refine calls_WP (vs := [_]) Tryz.func90 rfl (by kernel_rfl) rfl ?_
  (repeat (first | with_reducible refine W.seq ?_ | with_reducible refine Ops.nil ?_ | with_reducible refine W.region ?_ | refine z_p (kk := ?_) | with_reducible refine W.block ?_))
  refine z_ev (EV.asN rfl rfl rfl rfl rfl rfl) (kk := ?_)
  (repeat (first | with_reducible refine Ops.nil ?_ | refine z_p (kk := ?_)))
  refine W.condF rfl (by first | rfl | assumption | (simp only [bnf] <;> omega) | (simp only [*, bnf]; done) | fail) ?_
  (repeat (first | with_reducible refine W.seq ?_ | with_reducible refine W.region ?_))
  refine z_ev (EV.asY rfl rfl rfl rfl) (kk := ?_)
  (repeat (first | with_reducible refine Ops.nil ?_ | refine z_p (kk := ?_)))
  refine W.condT rfl (by first | rfl | assumption | (simp only [bnf] <;> omega) | (simp only [*, bnf]; done) | fail) ?_
  (repeat (first | with_reducible refine W.seq ?_ | with_reducible refine Ops.nil ?_ | with_reducible refine W.region ?_ | refine z_p (kk := ?_) | with_reducible refine W.block ?_ | refine z_l (kk := ?_)))
  refine W.loop (fun m ρ w1 => ∃ (i : Nat) (acc : Od) (va : Value), m = l.length - i ∧ i ≤ l.length ∧ Below w.heap.size w w1 ∧ OM S' w1 va acc ∧ bigT acc = false ∧ msF f = blO acc (msF (dropF f i)) ∧ ρ = [(5, va), (16, .slice A l.length c), (17, .int .i64 l.length), (18, .int .i64 i)])
    ⟨_, _, ⟨0, .nil, _, rfl, Nat.zero_le _, Below.refl _ _, OM.nil, rfl, by rw [dropF_zero]; rfl, rfl⟩, (by repeat (first | exact trivial | refine And.intro rfl ?_))⟩ ?_
  rintro m ρ w1 ⟨i, acc, va, rfl, hi, hb1, hO, hba, hacc, rfl⟩
  have hb11 : Below w1.heap.size w1 w1 := Below.refl _ _
  have hR1 := hR.below hb1
  (repeat (first | with_reducible refine W.seq ?_ | with_reducible refine Ops.nil ?_ | with_reducible refine W.region ?_ | refine z_p (kk := ?_)))
  (first | refine W.condD rfl (fun hc => ?_) (fun hc => ?_) | refine W.condE rfl (fun hc => ?_) (fun hc => ?_) | refine W.condN rfl (fun hc => ?_) (fun hc => ?_) | refine W.cond rfl (fun hc => ?_) (fun hc => ?_))
  · have hil : i < l.length := by omega
    have aM := (hA.at_ (i := i) (by omega)).below hb1
    have hsz := nthF_sz (f := f) (i := i) (by omega)
    have hs1 := hb1.size
    rw [dropF_cons (by omega), show msF (.cons (nthF f i) (dropF f (i + 1))) = blO (.cons (msF (nthF f i)) 1 .nil) (msF (dropF f (i + 1))) from rfl] at hacc
    generalize hva : l.getD i default = vk at *
    (repeat (first | with_reducible refine W.seq ?_ | with_reducible refine Ops.nil ?_ | with_reducible refine W.region ?_ | refine z_p (kk := ?_) | with_reducible refine W.skip ?_ | with_reducible refine W.block ?_ | refine z_H (kk := fun _ => ?_) | refine z_ev (EV.mkI rfl rfl rfl rfl) (kk := ?_)))
    rw [hva]
    refine Ops.callP rfl rfl rfl rfl rfl (ih _ (show szF (nthF f i) < n by omega) (Nat.le_refl _) (by omega) (fun j hj => by have := hS j hj; omega) aM) (fun r w2 hR => ?_) (fun ch w2 hR => ?_)
    rotate_left
    · obtain ⟨rfl, hbg, hb2⟩ := hR
      refine ⟨rfl, ?_, Below.via hb1 hb2⟩
      rw [hacc]
      refine big_r (big_l ?_)
      have h1 := of_decide_eq_true hbg
      have h2 := ms_sizes (nthF f i)
      have h3 := most_top (msF (nthF f i))
      exact decide_eq_true (by simp only [topO, szO]; omega)
    obtain ⟨hbg, hE, hb2⟩ := hR
    have hb02 := Below.via hb1 hb2
    have hs2 := hb02.size
    have hO2 := hO.below hb2
    have ha1 := hE.one
    have z1 := of_decide_eq_false hbg
    have z2 := of_decide_eq_false hba
    skip
    refine Ops.bld2 rfl rfl rfl rfl rfl rfl rfl ha1 rfl ?_
    refine Ops.bsG (cs := #[r, .int .i64 ((1 : Nat) : Int)]) (vs := [(0, .agg #[r, .int .i64 ((1 : Nat) : Int)])]) rfl rfl rfl rfl rfl rfl rfl rfl rfl (by simp [Instr.fill, Value.cells, show Array.range 2 = #[0, 1] from rfl]) (fun w3 b hM => ?_)
    have hb3 := Mk.bel hM
    have hb03 := Below.via hb02 hb3
    have hs3 := hb03.size
    have hL := one_lit (S' := S') (fun j hj => by have := hS j hj; omega) hE hM
    refine Ops.callP rfl rfl rfl rfl rfl (blend_c (S' := S') (fun j hj => by have := hS j hj; omega) (hO2.below hb3) hL (by omega) (by simp only [szO]; omega) (by omega) (by simp only [topO]; omega)) (fun r4 w4 hR => ?_) (fun ch w4 hR => ?_)
    rotate_left
    · obtain ⟨rfl, hbg4, hb4⟩ := hR
      refine ⟨rfl, ?_, Below.via hb03 hb4⟩
      rw [hacc, ← bl_assoc]
      exact big_l hbg4
    obtain ⟨hbg4, hO4, hb4⟩ := hR
    (repeat (first | with_reducible refine Ops.nil ?_ | with_reducible refine W.region ?_ | refine z_p (kk := ?_) | refine z_a (kk := ?_) | with_reducible refine W.endb ?_))
    exact W.endl ⟨_, _, ⟨⟨i + 1, _, r4, rfl, by omega, Below.via hb03 hb4, hO4, hbg4, by rw [hacc, bl_assoc], rfl⟩, by omega⟩, (by repeat (first | exact trivial | refine And.intro rfl ?_))⟩
  · have hil : i = l.length := by omega
    subst hil
    rw [hl, dropF_len, show msF .nil = .nil from rfl, blO_nil] at hacc
    subst hacc
    (repeat (first | with_reducible refine W.seq ?_ | with_reducible refine Ops.nil ?_ | with_reducible refine W.region ?_ | refine z_p (kk := ?_) | refine W.exit rfl ?_))
    exact W.fretP rfl ⟨hba, hO, hb1⟩
def headR (s : List UInt8) : Except Int Nat := match rdHA s with
  | none => .error 4
  | some f => .ok (heF f)
def measR (s : List UInt8) : Except Int (List UInt8) := match rdHA s with
  | none => .error 4
  | some f => if bigT (msF f) = true then .error 5 else .ok (txO (msF f))
def outH : Except Int Nat → Int
  | .ok x => (x : Int)
  | .error _ => 0
theorem Heads1_c {w : World} {b0 b3 : Nat} {s : List UInt8} (hs : s.length ≤ 4294967295) (B0 : Blk w b0 #[S s] 9) (B3 : Blk w b3 #[.int .i64 0] 3) :
    Calls Tryz.prog 86 #[.pointer (some ⟨b0, 0, none⟩), .pointer (some ⟨b3, 0, none⟩)] w
      (RetP (fun _ w' => Kp (fun i => i = b3) w w' ∧ ∃ x, headR s = .ok x ∧ Blk w' b3 #[.int .i64 (x : Int)] 3) (fun ch w' => ∃ e, ch = trb e ∧ Kp (fun i => i = b3) w w' ∧ headR s = .error e ∧ Kp (fun _ => False) w w')) := by
  refine calls_WP (vs := [_, _]) Tryz.func86 rfl (by kernel_rfl) rfl ?_
  (repeat (first | with_reducible refine W.region ?_ | refine z_d (kk := ?_)))
  refine Ops.callP rfl rfl rfl rfl rfl (readHydra_c hs) (fun va w1 hR => ?_) (fun ch w1 hR => ?_)
  rotate_left
  · obtain ⟨rfl, h1, hb1⟩ := hR
    exact ⟨4, rfl, (kpF hb1).mono (fun _ _ e => e.elim), by unfold headR; rw [h1], kpF hb1⟩
  obtain ⟨f, hf, hM, hb1⟩ := hR
  have hfz := rdHA_sz hf
  have hhz := heF_sz f
  have B31 := B3.kp (kpF hb1) (fun e => e)
  skip
  refine Ops.callS rfl rfl rfl rfl rfl (heads_c _ (Nat.le_refl _) (by omega) hM) ?_
  refine Ops.st rfl rfl rfl rfl rfl rfl rfl B31 (by simp) (fun w4 hu => ?_)
  (repeat (first | with_reducible refine Ops.nil ?_))
  refine W.fendP rfl ⟨((kpF hb1).trans hu.kp).mono (fun _ _ e => by rcases e with e | e; exact e.elim; exact e), heF f, ?_, by simpa using hu.blk⟩
  unfold headR
  rw [hf]
theorem Heads_c {w : World} {s : List UInt8} (hs : s.length ≤ 4294967295) :
    Calls Tryz.prog 43 #[S s] w (Ret fun r w' => r = .tuple #[.int .i64 (outH (headR s)), .int .i64 (outE (headR s))] ∧ Below w.heap.size w w') := by
  refine calls_W (vs := [_]) Tryz.func43 rfl (by kernel_rfl) rfl ?_
  (repeat (first | with_reducible refine W.seq ?_ | with_reducible refine W.region ?_))
  refine Ops.box rfl rfl rfl rfl (fun w1 b0 hM1 => ?_)
  refine Ops.alloc rfl rfl rfl rfl (fun w4 b3 hM4 => ?_)
  have hb14 := Mk.bel hM4
  have hb04 := Below.via (Mk.bel hM1) hb14
  have B0 : Blk w4 b0 #[S s] 9 := Blk.kp (w := w1) (hM1.at_) (kpF hb14) (fun e => e)
  have B3 : Blk w4 b3 #[.int .i64 0] 3 := hM4.at_
  have e3 := hM4.r_eq
  have l3 := B3.lt
  have hw03 := (Mk.bel hM1).size
  (repeat (first | with_reducible refine W.seq ?_ | with_reducible refine Ops.nil ?_ | with_reducible refine W.region ?_ | refine z_p (kk := ?_)))
  refine Ops.call rfl rfl rfl rfl rfl (guard_c (F := 86) (caps := [.pointer (some ⟨b0, 0, none⟩), .pointer (some ⟨b3, 0, none⟩)]) (T := fun i => i = b3) (N := fun _ w' => ∃ x, headR s = .ok x ∧ Blk w' b3 #[.int .i64 (x : Int)] 3) (E' := fun w1 w' e => headR s = .error e ∧ Kp (fun _ => False) w1 w') rfl (fun i h => by omega) (fun w5 hlt hb5 => Heads1_c hs (B0.kp (kpF hb5) (fun e => e)) (B3.kp (kpF hb5) (fun e => e)))) (fun r w' hR => ?_)
  obtain ⟨w5, w6, hlt, hb5, k56, k67, hor⟩ := hR
  have hfin : ∃ x e, x = outH (headR s) ∧ e = outE (headR s) ∧ r = .int .i64 e ∧ Blk w' b3 #[.int .i64 x] 3 := by
    rcases hor with ⟨rfl, x, h1, h2⟩ | ⟨e, rfl, h1, h2⟩
    · exact ⟨x, 0, by rw [h1]; rfl, by rw [h1]; rfl, rfl, h2.kp k67 (fun h => by omega)⟩
    · exact ⟨0, e, by rw [h1]; rfl, by rw [h1]; rfl, rfl, ((B3.kp (kpF hb5) (fun e => e)).kp h2 (fun e => e)).kp k67 (fun h => by omega)⟩
  obtain ⟨x, e, hx, he, rfl, B3'⟩ := hfin
  have hb0' : Below w.heap.size w w' := Below.put (Below.put (Below.via hb04 hb5) k56 (fun i h => by omega)) k67 (fun i h => by omega)
  have hbww : Below w'.heap.size w' w' := Below.refl _ _
  rw [← hx, ← he]
  (repeat (first | with_reducible refine W.seq ?_ | with_reducible refine Ops.nil ?_ | with_reducible refine W.region ?_ | refine z_p (kk := ?_) | refine z_d (kk := ?_)))
  refine Ops.st rfl rfl rfl rfl rfl rfl rfl B3' (by simp) (fun w7 hu => ?_)
  have B7 : Blk w7 b3 #[.int .i64 x] 3 := by simpa using hu.blk
  (repeat (first | with_reducible refine Ops.nil ?_ | refine z_p (kk := ?_)))
  exact W.fretW (vs := [_, _]) ⟨_, _, rfl, ⟨b3, 0, _, 3, rfl, rfl, B7, rfl⟩, _, _, rfl, rfl, rfl⟩ ⟨rfl, Below.put hb0' hu.kp (fun i h => by omega)⟩
theorem Measure1_c {w : World} {b0 b3 : Nat} {s : List UInt8} (hs : s.length ≤ 4294967295) (hT : Tbl w) (B0 : Blk w b0 #[S s] 9) (B3 : Blk w b3 #[S []] 9) :
    Calls Tryz.prog 89 #[.pointer (some ⟨b0, 0, none⟩), .pointer (some ⟨b3, 0, none⟩)] w
      (RetP (fun _ w' => Kp (fun i => i = b3) w w' ∧ ∃ x, measR s = .ok x ∧ Blk w' b3 #[S x] 9) (fun ch w' => ∃ e, ch = trb e ∧ Kp (fun i => i = b3) w w' ∧ measR s = .error e ∧ Kp (fun _ => False) w w')) := by
  refine calls_WP (vs := [_, _]) Tryz.func89 rfl (by kernel_rfl) rfl ?_
  (repeat (first | with_reducible refine W.region ?_ | refine z_d (kk := ?_)))
  refine Ops.callP rfl rfl rfl rfl rfl (readHydra_c hs) (fun va w1 hR => ?_) (fun ch w1 hR => ?_)
  rotate_left
  · obtain ⟨rfl, h1, hb1⟩ := hR
    exact ⟨4, rfl, (kpF hb1).mono (fun _ _ e => e.elim), by unfold measR; rw [h1], kpF hb1⟩
  obtain ⟨f, hf, hM, hb1⟩ := hR
  have hfz := rdHA_sz hf
  have hms := ms_sizes f
  (repeat (first | refine z_ev (EV.mkI rfl rfl rfl rfl) (kk := ?_)))
  refine Ops.callP rfl rfl rfl rfl rfl (rank_c _ (Nat.le_refl _) (by omega) (fun i hi => by have := hb1.size; omega) hM) (fun r w2 hR => ?_) (fun ch w2 hR => ?_)
  rotate_left
  · obtain ⟨rfl, h1, hb2⟩ := hR
    have hb02 := Below.via hb1 hb2
    exact ⟨5, rfl, (kpF hb02).mono (fun _ _ e => e.elim), by unfold measR; rw [hf]; simp only; rw [if_pos h1], kpF hb02⟩
  obtain ⟨hbg, hO, hb2⟩ := hR
  have hb02 := Below.via hb1 hb2
  refine Ops.call rfl rfl rfl rfl rfl (text_c _ (Nat.le_refl _) (by omega) (by omega) (hT.below hb02) hO) (fun vt w4 hR => ?_)
  obtain ⟨rfl, hb4⟩ := hR
  have hb04 := Below.via hb02 hb4
  have B34 := B3.kp (kpF hb04) (fun e => e)
  refine Ops.st rfl rfl rfl rfl rfl rfl rfl B34 (by simp) (fun w5 hu => ?_)
  (repeat (first | with_reducible refine Ops.nil ?_))
  refine W.fendP rfl ⟨((kpF hb04).trans hu.kp).mono (fun _ _ e => by rcases e with e | e; exact e.elim; exact e), txO (msF f), by unfold measR; rw [hf]; simp only; rw [if_neg (by rw [hbg]; simp)], by simpa using hu.blk⟩
theorem Measure_c {w : World} {s : List UInt8} (hs : s.length ≤ 4294967295) (hT : Tbl w) :
    Calls Tryz.prog 44 #[S s] w (Ret fun r w' => r = .tuple #[S (outS (measR s)), .int .i64 (outE (measR s))] ∧ Below w.heap.size w w') := by
  refine calls_W (vs := [_]) Tryz.func44 rfl (by kernel_rfl) rfl ?_
  (repeat (first | with_reducible refine W.seq ?_ | with_reducible refine W.region ?_))
  refine Ops.box rfl rfl rfl rfl (fun w1 b0 hM1 => ?_)
  refine Ops.alloc rfl rfl rfl rfl (fun w4 b3 hM4 => ?_)
  have hb14 := Mk.bel hM4
  have hb04 := Below.via (Mk.bel hM1) hb14
  have B0 : Blk w4 b0 #[S s] 9 := Blk.kp (w := w1) (hM1.at_) (kpF hb14) (fun e => e)
  have B3 : Blk w4 b3 #[S []] 9 := hM4.at_
  have e3 := hM4.r_eq
  have l3 := B3.lt
  have hw03 := (Mk.bel hM1).size
  (repeat (first | with_reducible refine W.seq ?_ | with_reducible refine Ops.nil ?_ | with_reducible refine W.region ?_ | refine z_p (kk := ?_)))
  refine Ops.call rfl rfl rfl rfl rfl (guard_c (F := 89) (caps := [.pointer (some ⟨b0, 0, none⟩), .pointer (some ⟨b3, 0, none⟩)]) (T := fun i => i = b3) (N := fun _ w' => ∃ x, measR s = .ok x ∧ Blk w' b3 #[S x] 9) (E' := fun w1 w' e => measR s = .error e ∧ Kp (fun _ => False) w1 w') rfl (fun i h => by omega) (fun w5 hlt hb5 => Measure1_c hs (hT.below (Below.via hb04 hb5)) (B0.kp (kpF hb5) (fun e => e)) (B3.kp (kpF hb5) (fun e => e)))) (fun r w' hR => ?_)
  obtain ⟨w5, w6, hlt, hb5, k56, k67, hor⟩ := hR
  have hfin : ∃ x e, x = outS (measR s) ∧ e = outE (measR s) ∧ r = .int .i64 e ∧ Blk w' b3 #[S x] 9 := by
    rcases hor with ⟨rfl, x, h1, h2⟩ | ⟨e, rfl, h1, h2⟩
    · exact ⟨x, 0, by rw [h1]; rfl, by rw [h1]; rfl, rfl, h2.kp k67 (fun h => by omega)⟩
    · exact ⟨[], e, by rw [h1]; rfl, by rw [h1]; rfl, rfl, ((B3.kp (kpF hb5) (fun e => e)).kp h2 (fun e => e)).kp k67 (fun h => by omega)⟩
  obtain ⟨x, e, hx, he, rfl, B3'⟩ := hfin
  have hb0' : Below w.heap.size w w' := Below.put (Below.put (Below.via hb04 hb5) k56 (fun i h => by omega)) k67 (fun i h => by omega)
  have hbww : Below w'.heap.size w' w' := Below.refl _ _
  rw [← hx, ← he]
  (repeat (first | with_reducible refine W.seq ?_ | with_reducible refine Ops.nil ?_ | with_reducible refine W.region ?_ | refine z_p (kk := ?_) | refine z_d (kk := ?_)))
  refine Ops.st rfl rfl rfl rfl rfl rfl rfl B3' (by simp) (fun w7 hu => ?_)
  have B7 : Blk w7 b3 #[S x] 9 := by simpa using hu.blk
  (repeat (first | with_reducible refine Ops.nil ?_ | refine z_p (kk := ?_)))
  exact W.fretW (vs := [_, _]) ⟨_, _, rfl, ⟨b3, 0, _, 9, rfl, rfl, B7, rfl⟩, _, _, rfl, rfl, rfl⟩ ⟨rfl, Below.put hb0' hu.kp (fun i h => by omega)⟩
end Go.Proofs.YtcmjlmnfdncajaaGreatDoor
/- Plain: ordinals made from any string. -/
namespace Go.Proofs.YtcmjlmnfdncajaaGreatDoor.TW
def grK (G : Nat → Od × Nat) (s : By) : Nat → Od → Nat → Od × Nat
  | 0, out, i => (out, i)
  | k + 1, out, i => if s.length ≤ i ∨ (s.getD i 0).toNat % 4 = 0 then (out, i + 1) else
      grK G s k (blO out (.cons (G (i + 1)).1 (1 + (s.getD i 0).toNat / 4 % 8) .nil)) (G (i + 1)).2
def grO (s : By) : Nat → Nat → Od × Nat
  | 0, i => (.nil, i)
  | l + 1, i => grK (grO s l) s 3 .nil i
structure GrOk (K : Nat) (o : Od) : Prop where
  nf : NF o
  top : topO o ≤ 24
  ex : exM o ≤ 24
  sz : szO o ≤ K
theorem grK_ok {G : Nat → Od × Nat} {s : By} {K D : Nat} (hG : ∀ i, GrOk K (G i).1 ∧ i ≤ (G i).2 ∧ (G i).2 ≤ i + D) : ∀ (k : Nat) (out : Od) (i : Nat), k ≤ 3 → NF out → topO out ≤ 8 * (3 - k) → exM out ≤ 24 → szO out ≤ (3 - k) * (K + 1) →
    GrOk (3 * (K + 1)) (grK G s k out i).1 ∧ i ≤ (grK G s k out i).2 ∧ (grK G s k out i).2 ≤ i + (k * (D + 1) + 1)
  | 0, out, i, _, h1, h2, h3, h4 => ⟨⟨h1, by simp only [grK]; omega, h3, h4⟩, by simp only [grK]; omega, by simp only [grK]; omega⟩
  | k + 1, out, i, hk, h1, h2, h3, h4 => by
    simp only [grK]
    have hm : (3 - (k + 1)) * (K + 1) ≤ 3 * (K + 1) := Nat.mul_le_mul_right _ (by omega)
    split
    · exact ⟨⟨h1, by show topO out ≤ 24; omega, h3, by show szO out ≤ _; omega⟩, by show i ≤ i + 1; omega, by show i + 1 ≤ _; omega⟩
    · obtain ⟨g1, g2, g3⟩ := hG (i + 1)
      generalize hc : 1 + (s.getD i 0).toNat / 4 % 8 = c
      have hc8 : 1 ≤ c ∧ c ≤ 8 := by omega
      have hb := bl_sizes out (.cons (G (i + 1)).1 c .nil)
      have hmo := most_eq (G (i + 1)).1
      have q1 := g1.top
      have q2 := g1.ex
      have q3 := g1.sz
      simp only [szO, topO, exM] at hb
      have e1 : (3 - k) * (K + 1) = (3 - (k + 1)) * (K + 1) + (K + 1) := by
        rw [show 3 - k = (3 - (k + 1)) + 1 by omega, Nat.succ_mul]
      obtain ⟨i1, i2, i3⟩ := grK_ok hG k (blO out (.cons (G (i + 1)).1 c .nil)) (G (i + 1)).2 (by omega) (bl_NF h1 ⟨g1.nf, by omega, trivial, trivial⟩) (by omega) (by omega) (by omega)
      refine ⟨i1, by omega, ?_⟩
      rw [Nat.succ_mul]
      omega
theorem grO_ok (s : By) : ∀ (l i : Nat), l ≤ 3 → GrOk (match l with | 0 => 0 | 1 => 3 | 2 => 12 | _ => 39) (grO s l i).1 ∧ i ≤ (grO s l i).2 ∧ (grO s l i).2 ≤ i + (match l with | 0 => 0 | 1 => 4 | 2 => 16 | _ => 52)
  | 0, i, _ => ⟨⟨trivial, by simp [grO, topO], by simp [grO, exM], by simp [grO, szO]⟩, Nat.le_refl _, Nat.le_refl _⟩
  | 1, i, _ => grK_ok (K := 0) (D := 0) (fun i => grO_ok s 0 i (by omega)) 3 .nil i (by omega) trivial (by simp [topO]) (by simp [exM]) (by simp [szO])
  | 2, i, _ => grK_ok (K := 3) (D := 4) (fun i => grO_ok s 1 i (by omega)) 3 .nil i (by omega) trivial (by simp [topO]) (by simp [exM]) (by simp [szO])
  | 3, i, _ => grK_ok (K := 12) (D := 16) (fun i => grO_ok s 2 i (by omega)) 3 .nil i (by omega) trivial (by simp [topO]) (by simp [exM]) (by simp [szO])
  | n + 4, i, h => by omega
/-- The ordinal of a string. -/
def ordS (s : By) : Od := (grO s 3 0).1
theorem ordS_ok (s : By) : NF (ordS s) ∧ mostO (ordS s) ≤ 24 ∧ szO (ordS s) ≤ 39 := by
  have h := (grO_ok s 3 0 (by omega)).1
  have h1 := h.top
  have h2 := h.ex
  have h3 := h.sz
  have h4 := most_eq (grO s 3 0).1
  exact ⟨h.nf, by unfold ordS; omega, h3⟩
theorem rdA_ordS (s : By) : rdA (txO (ordS s)) = some (ordS s) := by
  obtain ⟨h1, h2, h3⟩ := ordS_ok s
  exact rdA_tx h1 (small_of h1 (by omega)) (by omega)
/-- Texts tell ordinals apart. -/
theorem txO_inj {a b : Od} (ha : rdA (txO a) = some a) (hb : rdA (txO b) = some b) (h : txO a = txO b) : a = b := by
  rw [h, hb] at ha
  exact (Option.some.inj ha).symm
end Go.Proofs.YtcmjlmnfdncajaaGreatDoor.TW
/- Plain: hydras as strings: read back, and grown. -/
namespace Go.Proofs.YtcmjlmnfdncajaaGreatDoor.TW
theorem txF_len : ∀ f, (txF f).length = 2 * szF f
  | .nil => rfl
  | .cons k r => by simp only [txF, szF, List.length_cons, List.length_append, txF_len k, txF_len r]; omega
theorem txH_len (f : Fo) : (txH f).length = 2 * szF f + 2 := by simp only [txH, List.length_cons, List.length_append, List.length_nil, txF_len]
theorem rdFo_tx : ∀ {f : Fo} {n : Nat} {t : By}, (∀ u, t ≠ 40 :: u) → szF f < n → rdFo n (txF f ++ t) = some (f, t)
  | .nil, 0, t, _, h => by simp [szF] at h
  | .nil, n + 1, t, ht, h => by
    have : pre [40] t = none := by
      cases t with
      | nil => rfl
      | cons b u =>
        simp only [pre]
        rw [if_neg]
        intro e
        exact ht u (by rw [e])
    exact rdFo_none this
  | .cons k r, 0, t, _, h => by simp [szF] at h
  | .cons k r, n + 1, t, ht, h => by
    simp only [szF] at h
    have e1 : txF (.cons k r) ++ t = [40] ++ (txF k ++ (41 :: (txF r ++ t))) := by simp [txF]
    rw [e1]
    simp only [rdFo, pre_app]
    rw [rdFo_tx (f := k) (n := n) (t := 41 :: (txF r ++ t)) (fun u e => by simp at e) (by omega)]
    have e2 : (41 : UInt8) :: (txF r ++ t) = [41] ++ (txF r ++ t) := rfl
    simp only [e2, pre_app]
    rw [rdFo_tx (f := r) ht (by omega)]
    rfl
theorem rdHA_tx {f : Fo} (h : 1 + szF f ≤ 200) : rdHA (txH f) = some f := by
  have hl := txH_len f
  unfold rdHA rdHy
  have e1 : txH f = [40] ++ (txF f ++ [41]) := rfl
  rw [hl]
  rw [e1]
  simp only [pre_app]
  rw [rdFo_tx (f := f) (t := [41]) (fun u e => by simp at e) (by omega)]
  have e3 : pre [41] [41] = some [] := rfl
  simp only [e3, Option.map_some]
  rw [if_pos h]
/-- A pair is put in. -/
theorem ins_F : ∀ (f : Fo) (p : Nat), p ≤ (txF f).length → ∃ f', (txF f).take p ++ ([40, 41] ++ (txF f).drop p) = txF f' ∧ szF f' = szF f + 1
  | .nil, p, h => by
    have : p = 0 := by simpa [txF] using h
    subst this
    exact ⟨.cons .nil .nil, rfl, rfl⟩
  | .cons k r, p, h => by
    have hk := txF_len k
    cases p with
    | zero => exact ⟨.cons .nil (.cons k r), by simp [txF], by simp only [szF]; omega⟩
    | succ p =>
      simp only [txF, List.length_cons, List.length_append] at h
      by_cases hp : p ≤ (txF k).length
      · obtain ⟨k', h1, h2⟩ := ins_F k p hp
        refine ⟨.cons k' r, ?_, by simp only [szF]; omega⟩
        simp only [txF, List.take_succ_cons, List.drop_succ_cons, List.cons_append]
        rw [← h1, List.take_append_of_le_length hp, List.drop_append_of_le_length hp]
        simp
      · obtain ⟨r', h1, h2⟩ := ins_F r (p - (txF k).length - 1) (by omega)
        refine ⟨.cons k r', ?_, by simp only [szF]; omega⟩
        simp only [txF, List.take_succ_cons, List.drop_succ_cons, List.cons_append]
        rw [← h1, List.take_append, List.drop_append, List.take_of_length_le (by omega), List.drop_eq_nil_of_le (by omega)]
        rw [show p - (txF k).length = (p - (txF k).length - 1) + 1 by omega, List.take_succ_cons, List.drop_succ_cons]
        simp
theorem ins_H (f : Fo) {p : Nat} (h1 : 1 ≤ p) (h2 : p + 1 ≤ (txH f).length) : ∃ f', (txH f).take p ++ ([40, 41] ++ (txH f).drop p) = txH f' ∧ szF f' = szF f + 1 := by
  have hl := txH_len f
  have hl2 := txF_len f
  obtain ⟨f', h3, h4⟩ := ins_F f (p - 1) (by omega)
  refine ⟨f', ?_, h4⟩
  rw [show p = (p - 1) + 1 by omega]
  simp only [txH, List.take_succ_cons, List.drop_succ_cons, List.cons_append]
  rw [← h3, List.take_append_of_le_length (by omega), List.drop_append_of_le_length (by omega)]
  simp
/-- Grown from the bytes of a string. -/
def grwL : By → By → By
  | [], out => out
  | b :: s, out => grwL s (out.take (1 + b.toNat * 7 % (out.length - 1)) ++ ([40, 41] ++ out.drop (1 + b.toNat * 7 % (out.length - 1))))
theorem grw_ok : ∀ (s : By) (f : Fo), ∃ f', grwL s (txH f) = txH f' ∧ szF f' = szF f + s.length
  | [], f => ⟨f, rfl, rfl⟩
  | b :: s, f => by
    have hl := txH_len f
    have hm := Nat.mod_lt (b.toNat * 7) (show (txH f).length - 1 > 0 by omega)
    obtain ⟨f1, h1, h2⟩ := ins_H f (p := 1 + b.toNat * 7 % ((txH f).length - 1)) (by omega) (by omega)
    obtain ⟨f2, h3, h4⟩ := grw_ok s f1
    refine ⟨f2, ?_, by simp; omega⟩
    simp only [grwL]
    rw [h1, h3]
end Go.Proofs.YtcmjlmnfdncajaaGreatDoor.TW
/- Lists of strings, read. -/
namespace Go.Proofs.YtcmjlmnfdncajaaGreatDoor.VW
open Go Go.RowKit
abbrev SlT (w : World) (v : Value) (xs : List (List UInt8)) : Prop := Sl S [] w v xs
section
variable {P : Program} [hT : Tab P] {n : Nat} {ds : List Deferred} {Φ : Post} {k : List It} {ρ : E} {w : World} {all : Array Oper} {l : List Oper} {md : Option (List Oper)} {s : Nat} {F : World → Prop} {π : List (Nat × Nat)} {L : List Bool}
theorem z_TJ {o1 o2 : Oper} {d1 d2 t t' e : Nat} {x y : Operand} {v : Value} {i : Nat} {xs : List (List UInt8)} {w0 : World} {c1 c2 : Bool} (ho : o1.op = .indexAddr t x y := by exact rfl) (hd1 : o1.dst = some d1 := by exact rfl) (hg1 : gdB all ρ o1.guard = some c1 := by exact rfl) (hc1 : c1 = true := by exact rfl) (ho2 : o2.op = .load t' (.tmp d1) := by exact rfl) (hd2 : o2.dst = some d2 := by exact rfl) (hg2 : ∀ p, gdB all ((d1, .pointer p) :: ρ) o2.guard = some c2 := by exact fun _ => rfl) (hc2 : c2 = true := by exact rfl) (ht : tyD P t = some (.slice e) := by exact rfl) (hs : tyS P e = some 1 := by exact rfl) (ha : tyAgg P t' = some false := by exact rfl) (hx : ev ρ x = some v := by exact rfl) (hy : ev ρ y = some (.int .i64 (i : Int)) := by exact rfl) (hsl : SlT w0 v xs := by assumption) (hb : Below w0.heap.size w0 w := by first | assumption | exact Below.refl _ _) (h1 : i < xs.length := by omega) (kk : ∀ p, Ops md P n ds all k Φ l ((d2, S (xs.getD i [])) :: (d1, p) :: ρ) w) : Ops md P n ds all k Φ (o1 :: o2 :: l) ρ w := Ops.rdBn ho hd1 hg1 hc1 ho2 hd2 hg2 hc2 ht hs ha hx hy hsl hb h1 kk
theorem z_TL {o1 o2 : Oper} {d1 d2 t t' e : Nat} {x y : Operand} {v : Value} {i : Int} {xs : List (List UInt8)} {w0 : World} {c1 c2 : Bool} (ho : o1.op = .indexAddr t x y := by exact rfl) (hd1 : o1.dst = some d1 := by exact rfl) (hg1 : gdB all ρ o1.guard = some c1 := by exact rfl) (hc1 : c1 = true := by exact rfl) (ho2 : o2.op = .load t' (.tmp d1) := by exact rfl) (hd2 : o2.dst = some d2 := by exact rfl) (hg2 : ∀ p, gdB all ((d1, .pointer p) :: ρ) o2.guard = some c2 := by exact fun _ => rfl) (hc2 : c2 = true := by exact rfl) (ht : tyD P t = some (.slice e) := by exact rfl) (hs : tyS P e = some 1 := by exact rfl) (ha : tyAgg P t' = some false := by exact rfl) (hx : ev ρ x = some v := by exact rfl) (hy : ev ρ y = some (.int .i64 i) := by exact rfl) (hsl : SlT w0 v xs := by assumption) (hb : Below w0.heap.size w0 w := by first | assumption | exact Below.refl _ _) (h0 : 0 ≤ i := by omega) (h1 : i < xs.length := by omega) (kk : ∀ p, Ops md P n ds all k Φ l ((d2, S (xs.getD i.toNat [])) :: (d1, p) :: ρ) w) : Ops md P n ds all k Φ (o1 :: o2 :: l) ρ w := Ops.rdB ho hd1 hg1 hc1 ho2 hd2 hg2 hc2 ht hs ha hx hy hsl hb h0 h1 kk
theorem x_TJ {i1 i2 d1 d2 t t' e : Nat} {o1 o2 : Oper} {x y : Operand} {v : Value} {i : Nat} {xs : List (List UInt8)} {w0 : World} {c1 c2 : Bool} (h1 : all[i1]? = some o1 := by exact rfl) (ho : o1.op = .indexAddr t x y := by exact rfl) (hd1 : o1.dst = some d1 := by exact rfl) (hg1 : gdB all ρ o1.guard = some c1 := by exact rfl) (hc1 : c1 = true := by exact rfl) (h2 : all[i2]? = some o2 := by exact rfl) (ho2 : o2.op = .load t' (.tmp d1) := by exact rfl) (hd2 : o2.dst = some d2 := by exact rfl) (hg2 : ∀ p, gdB all ((d1, .pointer p) :: ρ) o2.guard = some c2 := by exact fun _ => rfl) (hc2 : c2 = true := by exact rfl) (ht : tyD P t = some (.slice e) := by exact rfl) (hs : tyS P e = some 1 := by exact rfl) (ha : tyAgg P t' = some false := by exact rfl) (hx : ev ρ x = some v := by exact rfl) (hy : ev ρ y = some (.int .i64 (i : Int)) := by exact rfl) (hsl : SlT w0 v xs := by assumption) (hF : ∀ w, F w → Below w0.heap.size w0 w := by first | exact fun _ h => h | (intro _ h; exact Below.via (by assumption) h)) (hi : i < xs.length := by omega) (kk : ∀ p, OrdA P n ds all k Φ s F π ((L.set i1 true).set i2 true) ((d2, S (xs.getD i [])) :: (d1, p) :: ρ)) : OrdA P n ds all k Φ s F ((i1, 1) :: (i2, 2) :: π) L ρ := OrdA.rdSn h1 ho hd1 hg1 hc1 h2 ho2 hd2 hg2 hc2 ht hs ha hx hy hsl hF hi kk
theorem x_TL {i1 i2 d1 d2 t t' e : Nat} {o1 o2 : Oper} {x y : Operand} {v : Value} {i : Int} {xs : List (List UInt8)} {w0 : World} {c1 c2 : Bool} (h1 : all[i1]? = some o1 := by exact rfl) (ho : o1.op = .indexAddr t x y := by exact rfl) (hd1 : o1.dst = some d1 := by exact rfl) (hg1 : gdB all ρ o1.guard = some c1 := by exact rfl) (hc1 : c1 = true := by exact rfl) (h2 : all[i2]? = some o2 := by exact rfl) (ho2 : o2.op = .load t' (.tmp d1) := by exact rfl) (hd2 : o2.dst = some d2 := by exact rfl) (hg2 : ∀ p, gdB all ((d1, .pointer p) :: ρ) o2.guard = some c2 := by exact fun _ => rfl) (hc2 : c2 = true := by exact rfl) (ht : tyD P t = some (.slice e) := by exact rfl) (hs : tyS P e = some 1 := by exact rfl) (ha : tyAgg P t' = some false := by exact rfl) (hx : ev ρ x = some v := by exact rfl) (hy : ev ρ y = some (.int .i64 i) := by exact rfl) (hsl : SlT w0 v xs := by assumption) (hF : ∀ w, F w → Below w0.heap.size w0 w := by first | exact fun _ h => h | (intro _ h; exact Below.via (by assumption) h)) (h0 : 0 ≤ i := by omega) (hi : i < xs.length := by omega) (kk : ∀ p, OrdA P n ds all k Φ s F π ((L.set i1 true).set i2 true) ((d2, S (xs.getD i.toNat [])) :: (d1, p) :: ρ)) : OrdA P n ds all k Φ s F ((i1, 1) :: (i2, 2) :: π) L ρ := OrdA.rdS h1 ho hd1 hg1 hc1 h2 ho2 hd2 hg2 hc2 ht hs ha hx hy hsl hF h0 hi kk
end
end Go.Proofs.YtcmjlmnfdncajaaGreatDoor.VW
namespace Go.Proofs.YtcmjlmnfdncajaaGreatDoor
open Go Go.RowKit Go.Proofs.YtcmjlmnfdncajaaGreatDoor.VW Go.Proofs.YtcmjlmnfdncajaaGreatDoor.TW
attribute [local irreducible] W Ops OrdA VW.Ord OrdX Wi OpsI OrdF
set_option maxHeartbeats 8000000 in
theorem grow_c {w : World} {s : List UInt8} {N : Nat} (hN : N ≤ 1000) : Calls Tryz.prog 52 #[S s, .int .i64 (N : Int)] w (Ret fun r w' => (∃ f, szF f ≤ N ∧ r = S (txH f)) ∧ Below w.heap.size w w') := by
  refine calls_W (vs := [_, _]) Tryz.func52 rfl (by kernel_rfl) rfl ?_
  (repeat (first | with_reducible refine W.seq ?_ | with_reducible refine Ops.nil ?_ | with_reducible refine W.region ?_ | refine z_p (kk := ?_) | with_reducible refine W.block ?_))
  refine W.loop (fun m ρ w1 => ∃ (i : Nat) (f : Fo), m = N - i ∧ i ≤ N ∧ Below w.heap.size w w1 ∧ szF f = i ∧ ρ = [(0, S s), (1, .int .i64 (N : Int)), (5, S (txH f)), (6, .int .i64 i)])
    ⟨_, _, ⟨0, .nil, rfl, Nat.zero_le _, Below.refl _ _, rfl, rfl⟩, (by repeat (first | exact trivial | refine And.intro rfl ?_))⟩ ?_
  rintro m ρ w1 ⟨i, f, rfl, hi, hb1, hsz, rfl⟩
  have hb11 : Below w1.heap.size w1 w1 := Below.refl _ _
  have hlen := txH_len f
  by_cases h1 : i < s.length
  · have hd1 : decide ((i : Int) < (s.length : Int)) = true := by simp [h1]
    by_cases h2 : i < N
    · generalize hx : (s.getD i 0).toNat = x at *
      have hx8 : x < 256 := by rw [← hx]; exact UInt8.toNat_lt _
      have hm : 0 < 2 * szF f + 1 := by omega
      have hml := Nat.mod_lt (x * 7) hm
      (repeat (first | with_reducible refine W.seq ?_ | with_reducible refine Ops.nil ?_ | with_reducible refine W.region ?_ | refine z_p (kk := ?_) | refine z_y (kk := ?_) | refine z_ev (EV.slen rfl rfl rfl) (kk := ?_) | refine z_h (kk := ?_)))
      refine W.condT rfl (by first | (simp; done) | (simp; omega)) ?_
      (repeat (first | with_reducible refine W.seq ?_ | with_reducible refine W.region ?_ | refine z_p (kk := ?_) | with_reducible refine W.skip ?_ | with_reducible refine W.block ?_ | refine z_ev (EV.sidx rfl rfl rfl rfl (by omega)) (kk := ?_)))
      rw [hx]
      refine Ops.cv rfl rfl rfl rfl rfl rfl ?_
      rw [wrapN (by omega)]
      refine z_ev (EV.mulN (v := 7) rfl rfl rfl (by omega)) (kk := ?_)
      (repeat (first | refine z_p (kk := ?_) | refine z_a (kk := ?_) | refine z_ev (EV.slen rfl rfl rfl) (kk := ?_)))
      rw [show ((txH f).length : Int) - 1 = ((2 * szF f + 1 : Nat) : Int) by omega]
      refine z_ev (EV.remN rfl rfl rfl (by omega)) (kk := ?_)
      (repeat (first | with_reducible refine Ops.nil ?_ | refine z_p (kk := ?_) | refine z_a (kk := ?_)))
      rw [show (1 : Int) + ((x * 7 % (2 * szF f + 1) : Nat) : Int) = ((1 + x * 7 % (2 * szF f + 1) : Nat) : Int) by omega]
      generalize hp : 1 + x * 7 % (2 * szF f + 1) = p at *
      have hp1 : 1 ≤ p := by omega
      have hp2 : p + 1 ≤ (txH f).length := by omega
      obtain ⟨f1, g1, g2⟩ := ins_H f hp1 hp2
      have ht1 : ((txH f).take p).length ≤ (txH f).length := by rw [List.length_take]; omega
      have ht2 : ((txH f).drop p).length ≤ (txH f).length := by simp
      refine W.ordA 99 [(0, 1), (1, 1), (2, 1), (3, 1), (4, 1), (5, 1), (6, 1), (7, 1), (8, 1)] rfl (by kernel_rfl) rfl (by kernel_rfl) (fun _ _ _ h => h) ?_
      (repeat (first | refine x_p (kk := ?_) | refine x_ev rfl (fun _ => EV.sto rfl rfl rfl rfl (by omega)) (kk := ?_) | refine x_ev rfl (fun _ => EV.sfrom rfl rfl rfl rfl (by omega)) (kk := ?_) | refine x_ev rfl (fun _ => EV.sadd rfl rfl rfl (by first | omega | (simp only [List.length_append, List.length_cons, List.length_nil]; omega))) (kk := ?_)))
      rw [show (txH f).take p ++ [40, 41] ++ (txH f).drop p = txH f1 by rw [← g1, List.append_assoc]]
      refine OrdA.nil (fun w2 hb2 => ?_)
      (repeat (first | with_reducible refine Ops.nil ?_ | with_reducible refine W.region ?_ | refine z_p (kk := ?_) | refine z_a (kk := ?_) | with_reducible refine W.endb ?_))
      exact W.endl ⟨_, _, ⟨⟨i + 1, f1, rfl, by omega, Below.via hb1 hb2, by omega, rfl⟩, by omega⟩, (by repeat (first | exact trivial | refine And.intro rfl ?_))⟩
    · (repeat (first | with_reducible refine W.seq ?_ | with_reducible refine Ops.nil ?_ | with_reducible refine W.region ?_ | refine z_p (kk := ?_) | refine z_y (kk := ?_) | refine z_ev (EV.slen rfl rfl rfl) (kk := ?_) | refine z_h (kk := ?_)))
      refine W.condF rfl (by first | (simp; done) | (simp; omega)) ?_
      (repeat (first | with_reducible refine W.seq ?_ | with_reducible refine Ops.nil ?_ | with_reducible refine W.region ?_ | refine z_p (kk := ?_) | refine W.exit rfl ?_))
      exact W.fret rfl ⟨⟨f, by omega, rfl⟩, hb1⟩
  · have hd1 : decide ((i : Int) < (s.length : Int)) = false := by simp; omega
    (repeat (first | with_reducible refine W.seq ?_ | with_reducible refine Ops.nil ?_ | with_reducible refine W.region ?_ | refine z_p (kk := ?_) | refine z_n (kk := ?_) | refine z_ev (EV.slen rfl rfl rfl) (kk := ?_) | refine z_g (kk := ?_)))
    refine W.condF rfl (by first | (simp; done) | (simp; omega)) ?_
    (repeat (first | with_reducible refine W.seq ?_ | with_reducible refine Ops.nil ?_ | with_reducible refine W.region ?_ | refine z_p (kk := ?_) | refine W.exit rfl ?_))
    exact W.fret rfl ⟨⟨f, by omega, rfl⟩, hb1⟩
end Go.Proofs.YtcmjlmnfdncajaaGreatDoor
