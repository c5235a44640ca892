/- A part of the walk: what this seat's statements share. -/
import Derived.Test.YtcmjlmnfdncajaaGreatDoorZTowerHydrasG2
import Derived.Test.YtcmjlmnfdncajaaGreatDoorZG7
import Derived.Test.YtcmjlmnfdncajaaGreatDoorZG9
import Derived.Test.YtcmjlmnfdncajaaGreatDoorZTowerHydrasG1
import Derived.Test.YtcmjlmnfdncajaaGreatDoorZG10
import Derived.Test.YtcmjlmnfdncajaaGreatDoorZG5
set_option linter.unusedVariables false
set_option linter.unusedSimpArgs false
set_option linter.unusedSectionVars false
namespace Go.Proofs.YtcmjlmnfdncajaaGreatDoor
open Go Go.RowKit Go.Proofs.YtcmjlmnfdncajaaGreatDoor.VW Go.Proofs.YtcmjlmnfdncajaaGreatDoor.TW
attribute [local irreducible] W Ops OrdA VW.Ord OrdX Wi OpsI OrdF
theorem OM.asH {S : Nat → Prop} {w : World} {v : Value} {o : Od} (h : OM S w v o) : ∃ x : HS, v = eH x := by
  obtain ⟨l, hR, hA⟩ := h
  obtain ⟨A, c, rfl⟩ := hR.sh
  exact ⟨(A, l.length, c), rfl⟩
theorem same_c {S' : Nat → Prop} {w : World} {s : List UInt8} {e : Int} {v : Value} {o : Od} {B : Bool} (hB : B = true → s = [] ∧ e = 5) (hB2 : B = false → s = txO o ∧ e = 0 ∧ OM S' w v o ∧ szO o ≤ 1000000 ∧ mostO o ≤ 9999) :
    Calls Tryz.prog 29 #[S s, .int .i64 e, v, .bool B] w (Ret fun r w' => r = .bool true ∧ Below w.heap.size w w') := by
  refine calls_W (vs := [_, _, _, _]) Tryz.func29 rfl (by kernel_rfl) rfl ?_
  cases B with
  | true =>
    obtain ⟨rfl, rfl⟩ := hB rfl
    (repeat (first | with_reducible refine W.seq ?_ | with_reducible refine Ops.nil ?_ | with_reducible refine W.region ?_ | refine z_p (kk := ?_)))
    refine W.condT rfl (by first | rfl | assumption | (simp only [bnf] <;> omega) | (simp only [*, bnf]; done) | fail) ?_
    (repeat (first | with_reducible refine W.seq ?_ | with_reducible refine Ops.nil ?_ | with_reducible refine W.region ?_ | refine z_p (kk := ?_) | refine z_y (kk := ?_) | refine z_ev (EV.seq rfl rfl rfl rfl) (kk := ?_)))
    exact W.fret rfl ⟨rfl, Below.refl _ _⟩
  | false =>
    obtain ⟨rfl, rfl, hM, hz, hm⟩ := hB2 rfl
    have hd : decide (txO o = txO o) = true := by simp
    (repeat (first | with_reducible refine W.seq ?_ | with_reducible refine Ops.nil ?_ | with_reducible refine W.region ?_ | refine z_p (kk := ?_)))
    refine W.condF rfl (by first | rfl | assumption | (simp only [bnf] <;> omega) | (simp only [*, bnf]; done) | fail) ?_
    (repeat (first | with_reducible refine W.seq ?_ | with_reducible refine W.region ?_ | refine z_p (kk := ?_) | with_reducible refine W.skip ?_))
    refine Ops.call rfl rfl rfl rfl rfl (refText_c _ (Nat.le_refl _) (by omega) hm hM) (fun r w1 hR => ?_)
    obtain ⟨rfl, hb1⟩ := hR
    (repeat (first | with_reducible refine Ops.nil ?_ | refine z_p (kk := ?_) | refine z_y (kk := ?_) | refine z_ev (EV.seq rfl rfl rfl rfl) (kk := ?_) | refine z_h (kk := ?_)))
    exact W.fret rfl ⟨rfl, hb1⟩
theorem desO_nil {f n : Nat} : desW bigO (f + 1) .nil n = some [.nil] := rfl
theorem desO_big {f n : Nat} {a : Od} (ha : a ≠ .nil) (h : bigO (stepO a n) = true) : desW bigO (f + 1) a n = none := by
  cases a with
  | nil => exact absurd rfl ha
  | cons e c r => simp only [desW]; rw [if_pos h]
theorem desO_go {f n : Nat} {a : Od} (ha : a ≠ .nil) (h : bigO (stepO a n) = false) : desW bigO (f + 1) a n = (desW bigO f (stepO a n) (n + 1)).map (a :: ·) := by
  cases a with
  | nil => exact absurd rfl ha
  | cons e c r => simp only [desW]; rw [if_neg (by rw [h]; simp)]
set_option maxHeartbeats 16000000 in
theorem rDescent_c {S' : Nat → Prop} {w : World} {va : Value} {a : Od} {n : Nat} (hz0 : szO a ≤ 60) (hm0 : mostO a ≤ 1000) (hn : n ≤ 1000) (hS : ∀ i, S' i → i < w.heap.size) (hA : OM S' w va a) :
    Calls Tryz.prog 31 #[va, .int .i64 (n : Int)] w (Ret fun r w' => ((desW bigO 300 a n = none ∧ ∃ v, r = .tuple #[v, .bool false]) ∨ (∃ l v hs, desW bigO 300 a n = some l ∧ r = .tuple #[v, .bool true] ∧ R1 S' w' v hs ∧ LM S' w' hs l)) ∧ Below w.heap.size w w') := by
  obtain ⟨x0, rfl⟩ := hA.asH
  refine calls_W (vs := [_, _]) Tryz.func31 rfl (by kernel_rfl) rfl ?_
  (repeat (first | with_reducible refine W.seq ?_ | with_reducible refine Ops.nil ?_ | with_reducible refine W.region ?_ | refine z_p (kk := ?_)))
  refine Ops.bs1 rfl rfl rfl rfl rfl rfl rfl rfl rfl (fun w1 r hM => ?_)
  have hb01 := Mk.bel hM
  have e1 := hM.r_eq
  have s1 := hb01.size
  have hL1 : LO 42 eH w.heap.size w1 (.slice (some ⟨r, 0, none⟩) 1 1) [x0] := ⟨own_one hM, fun i hi => by simp [Value.ownBlock] at hi; omega⟩
  have hA1 : OM (fun i => S' i ∨ (Value.slice (some ⟨r, 0, none⟩) 1 1).ownBlock = some i) w1 (eH x0) a := (hA.more (S' := fun i => S' i ∨ (Value.slice (some ⟨r, 0, none⟩) 1 1).ownBlock = some i) (fun i h => by
    rcases h with h | h
    · exact .inl h
    · have := hL1.ge i h; exact .inr this)).below hb01
  have hLM1 : LM (fun i => S' i ∨ (Value.slice (some ⟨r, 0, none⟩) 1 1).ownBlock = some i) w1 [x0] [a] := LM.nil.snoc hA1
  generalize hlv : Value.slice (some ⟨r, 0, none⟩) 1 1 = lv0 at *
  (repeat (first | with_reducible refine W.seq ?_ | with_reducible refine Ops.nil ?_ | refine z_p (kk := ?_) | with_reducible refine W.block ?_))
  refine W.loop (fun m ρ w2 => ∃ (a' : Od) (n' : Nat) (pre : List Od) (hs : List HS) (x : HS) (lv : Value), m = 300 - pre.length ∧ ρ = [(0, eH x), (1, .int .i64 (n' : Int)), (6, lv)] ∧ pre.length ≤ 299 ∧ n' = n + pre.length ∧ Below w.heap.size w w2 ∧ LO 42 eH w.heap.size w2 lv hs ∧
      OM (fun i => S' i ∨ lv.ownBlock = some i) w2 (eH x) a' ∧ LM (fun i => S' i ∨ lv.ownBlock = some i) w2 hs (pre ++ [a']) ∧ szO a' ≤ 60 ∧ mostO a' ≤ 1000 ∧ desW bigO 300 a n = (desW bigO (300 - pre.length) a' n').map (pre ++ ·))
    ⟨_, _, ⟨a, n, [], [x0], x0, lv0, rfl, rfl, Nat.zero_le _, rfl, hb01, hL1, hA1, hLM1, hz0, hm0, by simp⟩, (by repeat (first | exact trivial | refine And.intro rfl ?_))⟩ ?_
  clear hL1 hA1 hLM1
  rintro m ρ w2 ⟨a', n', pre, hs, x, lv, rfl, rfl, hpl, hn', hb02, hL, hO, hLM, hz, hm, hdes⟩
  have hhl : hs.length = pre.length + 1 := by rw [hLM.1]; simp
  have s2 := hb02.size
  obtain ⟨f, hf⟩ : ∃ f, 300 - pre.length = f + 1 := ⟨299 - pre.length, by omega⟩
  rw [hf] at hdes
  have hb22 : Below w2.heap.size w2 w2 := Below.refl _ _
  obtain ⟨l, hRl, hAl⟩ := id hO
  have hll := hAl.len
  obtain ⟨Ax, cx, hx⟩ := hRl.sh
  by_cases hnil : a' = .nil
  · subst hnil
    have h0 : l.length = 0 := hll
    rw [desO_nil] at hdes
    rw [hx, h0]
    (repeat (first | with_reducible refine W.seq ?_ | with_reducible refine Ops.nil ?_ | with_reducible refine W.region ?_ | refine z_p (kk := ?_) | refine z_l (kk := ?_)))
    refine W.condF rfl (by first | rfl | assumption | (simp only [bnf] <;> omega) | (simp only [*, bnf]; done) | fail) ?_
    (repeat (first | with_reducible refine W.seq ?_ | with_reducible refine Ops.nil ?_ | with_reducible refine W.region ?_ | refine z_p (kk := ?_) | refine W.exit rfl ?_))
    refine W.fret rfl ⟨.inr ⟨pre ++ [Od.nil], lv, hs, by rw [hdes]; rfl, rfl, ?_, hLM.1, fun i hi => (hLM.2 i hi).more (fun j hj => .inl (.inl hj))⟩, hb02⟩
    exact hL.r1 s2 (by omega) hS
  · have hlp : 0 < l.length := Nat.pos_of_ne_zero (fun h => hnil (lenO_zero.1 (by omega)))
    have hS2 : ∀ i, (S' i ∨ lv.ownBlock = some i) → i < w2.heap.size := fun i h => by
      rcases h with h | h
      · have := hS i h; omega
      · exact (hL.own.lt i h).2
    have hsm := step_most a' n'
    have hss := step_sz a' n'
    have hsq : szO a' * (szO a' + 1) ≤ 60 * 61 := Nat.mul_le_mul hz (by omega)
    rw [hx]
    (repeat (first | with_reducible refine W.seq ?_ | with_reducible refine Ops.nil ?_ | with_reducible refine W.region ?_ | refine z_p (kk := ?_) | refine z_l (kk := ?_)))
    refine W.condT rfl (by first | (simp; done) | (simp; omega)) ?_
    rw [← hx]
    (repeat (first | with_reducible refine W.seq ?_ | with_reducible refine W.region ?_ | refine z_p (kk := ?_) | with_reducible refine W.skip ?_ | with_reducible refine W.block ?_))
    refine Ops.call rfl rfl rfl rfl rfl (rStep_c _ (Nat.le_refl _) (by omega) hnil (by omega) (by omega) hS2 hO) (fun v3 w3 hR => ?_)
    obtain ⟨hO3, hb23⟩ := hR
    have hb03 := Below.via hb02 hb23
    obtain ⟨y, rfl⟩ := hO3.asH
    (repeat (first | with_reducible refine W.seq ?_ | with_reducible refine Ops.nil ?_ | with_reducible refine W.region ?_ | refine z_p (kk := ?_) | refine z_a (kk := ?_)))
    refine Ops.call rfl rfl rfl rfl rfl (rFull_c (by omega) hO3) (fun r w4 hR => ?_)
    obtain ⟨rfl, hb34⟩ := hR
    have hb24 := Below.via hb23 hb34
    have hb04 := Below.via hb02 hb24
    have hL4 := hL.below hb24
    have hLM4 := hLM.below hb24
    have hO4 := hO3.below hb34
    cases hbg : bigO (stepO a' n') with
    | true =>
      rw [desO_big hnil hbg] at hdes
      (repeat (first | with_reducible refine Ops.nil ?_ | refine z_p (kk := ?_) | refine z_n (kk := ?_)))
      refine W.condT rfl (by first | rfl | assumption | (simp only [bnf] <;> omega) | (simp only [*, bnf]; done) | fail) ?_
      (repeat (first | with_reducible refine W.seq ?_ | with_reducible refine Ops.nil ?_ | with_reducible refine W.region ?_ | refine z_p (kk := ?_)))
      exact W.fret rfl ⟨.inl ⟨hdes, _, rfl⟩, hb04⟩
    | false =>
      rw [desO_go hnil hbg] at hdes
      have hbf := of_decide_eq_false hbg
      obtain ⟨Al, cl, hlv2⟩ := hL4.sh
      by_cases h300 : hs.length = 300
      · have hf0 : f = 0 := by omega
        subst hf0
        have hno : desW bigO 300 a n = none := by rw [hdes]; rfl
        rw [hlv2, h300]
        (repeat (first | with_reducible refine Ops.nil ?_ | refine z_p (kk := ?_) | refine z_y (kk := ?_) | refine z_l (kk := ?_)))
        refine W.condT rfl (by first | rfl | assumption | (simp only [bnf] <;> omega) | (simp only [*, bnf]; done) | fail) ?_
        (repeat (first | with_reducible refine W.seq ?_ | with_reducible refine Ops.nil ?_ | with_reducible refine W.region ?_ | refine z_p (kk := ?_)))
        exact W.fret rfl ⟨.inl ⟨hno, _, rfl⟩, hb04⟩
      · have f1 : ((((hs.length : Nat) : Int)) == 300) = false := by rw [beq_eq_false_iff_ne]; omega
        rw [hlv2]
        (repeat (first | with_reducible refine Ops.nil ?_ | refine z_p (kk := ?_) | refine z_y (kk := ?_) | refine z_l (kk := ?_)))
        refine W.condF rfl (by first | rfl | assumption | (simp; done) | (simp; omega)) ?_
        rw [← hlv2]
        (repeat (first | with_reducible refine W.region ?_ | refine z_p (kk := ?_) | with_reducible refine W.skip ?_))
        refine Ops.pushO (enc := eH) (u := y) rfl rfl rfl rfl rfl rfl rfl rfl rfl rfl rfl rfl (fun _ => rfl) rfl (hL4.base hb04.size) (by omega) (fun lv' p w5 hO5 k5 hn5 => ?_)
        replace hO5 := LO.put hO5 hb04.size
        have hst : ∀ i, (S' i ∨ lv'.ownBlock = some i) → (S' i ∨ lv.ownBlock = some i) ∨ w4.heap.size ≤ i := fun i h => by
          rcases h with h | h
          · exact .inl (.inl h)
          · rcases hn5 i h with q | q
            · exact .inl (.inr q)
            · exact .inr q
        have hOM5 := hO4.put k5 (fun i h => .inr h) hst
        have hLM5 := (hLM4.put k5 (fun i h => .inr h) hst).snoc hOM5
        have hb05 : Below w.heap.size w w5 := Below.put hb04 k5 (fun j hj => hL4.ge j hj)
        (repeat (first | with_reducible refine Ops.nil ?_ | refine z_p (kk := ?_) | with_reducible refine W.endb ?_))
        refine W.endl ⟨_, _, ⟨⟨stepO a' n', n' + 1, pre ++ [a'], hs ++ [y], y, lv', rfl, rfl, by simp; omega, by simp; omega, hb05, hO5, hOM5, hLM5, by omega, by omega, ?_⟩, by simp; omega⟩, (by repeat (first | exact trivial | refine And.intro rfl ?_))⟩
        rw [hdes, show 300 - (pre ++ [a']).length = f by simp; omega, Option.map_map]
        congr 1
        funext q
        simp
end Go.Proofs.YtcmjlmnfdncajaaGreatDoor
namespace Go.Proofs.YtcmjlmnfdncajaaGreatDoor
open Go Go.RowKit Go.Proofs.YtcmjlmnfdncajaaGreatDoor.VW Go.Proofs.YtcmjlmnfdncajaaGreatDoor.TW
attribute [local irreducible] W Ops OrdA VW.Ord OrdX Wi OpsI OrdF
def kindR (s : List UInt8) : Except Int Nat := match rdA s with
  | none => .error 4
  | some a => .ok (kindO a)
def outK : Except Int Nat → Int
  | .ok x => (x : Int)
  | .error _ => 0
theorem Kind1_c {w : World} {b0 b3 : Nat} {s : List UInt8} (hs : s.length ≤ 4294967295) (B0 : Blk w b0 #[S s] 9) (B3 : Blk w b3 #[.int .i64 0] 3) :
    Calls Tryz.prog 74 #[.pointer (some ⟨b0, 0, none⟩), .pointer (some ⟨b3, 0, none⟩)] w
      (RetP (fun _ w' => Kp (fun i => i = b3) w w' ∧ ∃ x, kindR s = .ok x ∧ Blk w' b3 #[.int .i64 (x : Int)] 3) (fun ch w' => ∃ e, ch = trb e ∧ Kp (fun i => i = b3) w w' ∧ kindR s = .error e ∧ Kp (fun _ => False) w w')) := by
  refine calls_WP (vs := [_, _]) Tryz.func74 rfl (by kernel_rfl) rfl ?_
  (repeat (first | with_reducible refine W.region ?_ | refine z_d (kk := ?_)))
  refine Ops.callP rfl rfl rfl rfl rfl (readOrdinal_c hs) (fun va w1 hR => ?_) (fun ch w1 hR => ?_)
  rotate_left
  · obtain ⟨rfl, h1, hb1⟩ := hR
    exact ⟨4, rfl, (kpF hb1).mono (fun _ _ e => e.elim), by unfold kindR; rw [h1], kpF hb1⟩
  obtain ⟨a, ha, hA, hb1⟩ := hR
  have B31 := B3.kp (kpF hb1) (fun e => e)
  skip
  refine Ops.callS rfl rfl rfl rfl rfl (kind_c hA) ?_
  refine Ops.st rfl rfl rfl rfl rfl rfl rfl B31 (by simp) (fun w4 hu => ?_)
  (repeat (first | with_reducible refine Ops.nil ?_))
  refine W.fendP rfl ⟨((kpF hb1).trans hu.kp).mono (fun _ _ e => by rcases e with e | e; exact e.elim; exact e), kindO a, ?_, by simpa using hu.blk⟩
  unfold kindR
  rw [ha]
theorem Kind_c {w : World} {s : List UInt8} (hs : s.length ≤ 4294967295) :
    Calls Tryz.prog 24 #[S s] w (Ret fun r w' => r = .tuple #[.int .i64 (outK (kindR s)), .int .i64 (outE (kindR s))] ∧ Below w.heap.size w w') := by
  refine calls_W (vs := [_]) Tryz.func24 rfl (by kernel_rfl) rfl ?_
  (repeat (first | with_reducible refine W.seq ?_ | with_reducible refine W.region ?_))
  refine Ops.box rfl rfl rfl rfl (fun w1 b0 hM1 => ?_)
  refine Ops.alloc rfl rfl rfl rfl (fun w4 b3 hM4 => ?_)
  have hb14 := Mk.bel hM4
  have hb04 := Below.via (Mk.bel hM1) hb14
  have B0 : Blk w4 b0 #[S s] 9 := Blk.kp (w := w1) (hM1.at_) (kpF hb14) (fun e => e)
  have B3 : Blk w4 b3 #[.int .i64 0] 3 := hM4.at_
  have e3 := hM4.r_eq
  have l3 := B3.lt
  have hw03 := (Mk.bel hM1).size
  (repeat (first | with_reducible refine W.seq ?_ | with_reducible refine Ops.nil ?_ | with_reducible refine W.region ?_ | refine z_p (kk := ?_)))
  refine Ops.call rfl rfl rfl rfl rfl (guard_c (F := 74) (caps := [.pointer (some ⟨b0, 0, none⟩), .pointer (some ⟨b3, 0, none⟩)]) (T := fun i => i = b3) (N := fun _ w' => ∃ x, kindR s = .ok x ∧ Blk w' b3 #[.int .i64 (x : Int)] 3) (E' := fun w1 w' e => kindR s = .error e ∧ Kp (fun _ => False) w1 w') rfl (fun i h => by omega) (fun w5 hlt hb5 => Kind1_c hs (B0.kp (kpF hb5) (fun e => e)) (B3.kp (kpF hb5) (fun e => e)))) (fun r w' hR => ?_)
  obtain ⟨w5, w6, hlt, hb5, k56, k67, hor⟩ := hR
  have hfin : ∃ x e, x = outK (kindR s) ∧ e = outE (kindR s) ∧ r = .int .i64 e ∧ Blk w' b3 #[.int .i64 x] 3 := by
    rcases hor with ⟨rfl, x, h1, h2⟩ | ⟨e, rfl, h1, h2⟩
    · exact ⟨x, 0, by rw [h1]; rfl, by rw [h1]; rfl, rfl, h2.kp k67 (fun h => by omega)⟩
    · exact ⟨0, e, by rw [h1]; rfl, by rw [h1]; rfl, rfl, ((B3.kp (kpF hb5) (fun e => e)).kp h2 (fun e => e)).kp k67 (fun h => by omega)⟩
  obtain ⟨x, e, hx, he, rfl, B3'⟩ := hfin
  have hb0' : Below w.heap.size w w' := Below.put (Below.put (Below.via hb04 hb5) k56 (fun i h => by omega)) k67 (fun i h => by omega)
  have hbww : Below w'.heap.size w' w' := Below.refl _ _
  rw [← hx, ← he]
  (repeat (first | with_reducible refine W.seq ?_ | with_reducible refine Ops.nil ?_ | with_reducible refine W.region ?_ | refine z_p (kk := ?_) | refine z_d (kk := ?_)))
  refine Ops.st rfl rfl rfl rfl rfl rfl rfl B3' (by simp) (fun w7 hu => ?_)
  have B7 : Blk w7 b3 #[.int .i64 x] 3 := by simpa using hu.blk
  (repeat (first | with_reducible refine Ops.nil ?_ | refine z_p (kk := ?_)))
  exact W.fretW (vs := [_, _]) ⟨_, _, rfl, ⟨b3, 0, _, 3, rfl, rfl, B7, rfl⟩, _, _, rfl, rfl, rfl⟩ ⟨rfl, Below.put hb0' hu.kp (fun i h => by omega)⟩
def stepR (s : List UInt8) (n : Int) : Except Int (List UInt8) := match rdA s with
  | none => .error 4
  | some a => if 0 ≤ n ∧ n ≤ 1000 then (if kindO a = 0 then .error 6 else if bigT (stepO a n.toNat) = true then .error 5 else .ok (txO (stepO a n.toNat))) else .error 2
set_option maxHeartbeats 2000000 in
theorem Step1_c {w : World} {b0 b1 b3 : Nat} {s : List UInt8} {n : Int} (hs : s.length ≤ 4294967295) (hT : Tbl w) (B0 : Blk w b0 #[S s] 9) (B1 : Blk w b1 #[.int .i64 n] 3) (B3 : Blk w b3 #[S []] 9) :
    Calls Tryz.prog 76 #[.pointer (some ⟨b0, 0, none⟩), .pointer (some ⟨b1, 0, none⟩), .pointer (some ⟨b3, 0, none⟩)] w
      (RetP (fun _ w' => Kp (fun i => i = b3) w w' ∧ ∃ x, stepR s n = .ok x ∧ Blk w' b3 #[S x] 9) (fun ch w' => ∃ e, ch = trb e ∧ Kp (fun i => i = b3) w w' ∧ stepR s n = .error e ∧ Kp (fun _ => False) w w')) := by
  refine calls_WP (vs := [_, _, _]) Tryz.func76 rfl (by kernel_rfl) rfl ?_
  (repeat (first | with_reducible refine W.seq ?_ | with_reducible refine W.region ?_ | refine z_d (kk := ?_)))
  refine Ops.callP rfl rfl rfl rfl rfl (readOrdinal_c hs) (fun va w1 hR => ?_) (fun ch w1 hR => ?_)
  rotate_left
  · obtain ⟨rfl, h1, hb1⟩ := hR
    exact ⟨4, rfl, (kpF hb1).mono (fun _ _ e => e.elim), by unfold stepR; rw [h1], kpF hb1⟩
  obtain ⟨a, ha, hA, hb1⟩ := hR
  obtain ⟨na, sa, za⟩ := rdA_spec ha
  have B11 := B1.kp (kpF hb1) (fun e => e)
  have B31 := B3.kp (kpF hb1) (fun e => e)
  have hdef : stepR s n = if 0 ≤ n ∧ n ≤ 1000 then (if kindO a = 0 then .error 6 else if bigT (stepO a n.toNat) = true then .error 5 else .ok (txO (stepO a n.toNat))) else .error 2 := by unfold stepR; rw [ha]
  have hb11 : Below w1.heap.size w1 w1 := Below.refl _ _
  (repeat (first | with_reducible refine W.seq ?_ | with_reducible refine Ops.nil ?_ | with_reducible refine W.region ?_ | refine z_p (kk := ?_) | refine z_d (kk := ?_)))
  refine Ops.callS rfl rfl rfl rfl rfl (within_c _ _ _ _) ?_
  skip
  refine Ops.callP rfl rfl rfl rfl rfl (demand_c _ _ _) (fun r w2 hR => ?_) (fun ch w2 hR => ?_)
  rotate_left
  · obtain ⟨hb, rfl, rfl⟩ := hR
    have h2 := of_decide_eq_false hb
    exact ⟨2, rfl, (kpF hb1).mono (fun _ _ e => e.elim), by rw [hdef, if_neg h2], kpF hb1⟩
  obtain ⟨hb, hw⟩ := hR
  subst w2
  have h2 := of_decide_eq_true hb
  clear hb
  rw [if_pos h2] at hdef
  obtain ⟨m, rfl⟩ : ∃ m : Nat, n = (m : Int) := ⟨n.toNat, by omega⟩
  rw [Int.toNat_natCast] at hdef
  obtain ⟨l, hRl, hAl⟩ := id hA
  have hll := hAl.len
  obtain ⟨A, c, rfl⟩ := hRl.sh
  (repeat (first | with_reducible refine W.seq ?_ | with_reducible refine Ops.nil ?_ | with_reducible refine W.region ?_ | refine z_p (kk := ?_) | refine z_l (kk := ?_)))
  refine Ops.callP rfl rfl rfl rfl rfl (demand_c _ _ _) (fun r w2 hR => ?_) (fun ch w2 hR => ?_)
  rotate_left
  · obtain ⟨hb, rfl, rfl⟩ := hR
    have h3 := of_decide_eq_false hb
    exact ⟨6, rfl, (kpF hb1).mono (fun _ _ e => e.elim), by rw [hdef, if_pos (kind_zero.2 (lenO_zero.1 (by omega)))], kpF hb1⟩
  obtain ⟨hb, hw⟩ := hR
  subst w2
  have h3 := of_decide_eq_true hb
  clear hb
  have hne : a ≠ .nil := fun e => by have := lenO_zero.2 e; omega
  rw [if_neg (fun h => hne (kind_zero.1 h))] at hdef
  have hmo := small_most sa
  have hsm := step_most a m
  have hss := step_sz a m
  have hsq : szO a * (szO a + 1) ≤ 60 * 61 := Nat.mul_le_mul za (by omega)
  (repeat (first | with_reducible refine Ops.nil ?_ | with_reducible refine W.region ?_ | refine z_p (kk := ?_) | refine z_d (kk := ?_)))
  refine Ops.call rfl rfl rfl rfl rfl (step_c _ (S' := fun i => i < w.heap.size) (Nat.le_refl _) (by omega) hne (by omega) (by omega) (fun i hi => by have := hb1.size; omega) hA) (fun v2 w2 hR => ?_)
  obtain ⟨hM2, hb2⟩ := hR
  have hb02 := Below.via hb1 hb2
  skip
  refine Ops.callP rfl rfl rfl rfl rfl (checked_c hM2 (by omega)) (fun vc w3 hR => ?_) (fun ch w3 hR => ?_)
  rotate_left
  · obtain ⟨rfl, hbig, hb3⟩ := hR
    have k03 : Kp (fun _ => False) w w3 := kpF (Below.via hb02 hb3)
    exact ⟨5, rfl, k03.mono (fun _ _ e => e.elim), by rw [hdef, if_pos hbig], k03⟩
  obtain ⟨rfl, hbig, hb3⟩ := hR
  have hb03 := Below.via hb02 hb3
  refine Ops.call rfl rfl rfl rfl rfl (text_c _ (Nat.le_refl _) (by omega) (by omega) (hT.below hb03) (hM2.below hb3)) (fun vt w4 hR => ?_)
  obtain ⟨rfl, hb4⟩ := hR
  have hb04 := Below.via hb03 hb4
  have B34 := B3.kp (kpF hb04) (fun e => e)
  refine Ops.st rfl rfl rfl rfl rfl rfl rfl B34 (by simp) (fun w5 hu => ?_)
  (repeat (first | with_reducible refine Ops.nil ?_))
  refine W.fendP rfl ⟨((kpF hb04).trans hu.kp).mono (fun _ _ e => by rcases e with e | e; exact e.elim; exact e), txO (stepO a m), by rw [hdef, if_neg (by rw [hbig]; simp)], by simpa using hu.blk⟩
theorem Step_c {w : World} {s : List UInt8} {n : Int} (hs : s.length ≤ 4294967295) (hT : Tbl w) :
    Calls Tryz.prog 25 #[S s, .int .i64 n] w (Ret fun r w' => r = .tuple #[S (outS (stepR s n)), .int .i64 (outE (stepR s n))] ∧ Below w.heap.size w w') := by
  refine calls_W (vs := [_, _]) Tryz.func25 rfl (by kernel_rfl) rfl ?_
  (repeat (first | with_reducible refine W.seq ?_ | with_reducible refine W.region ?_))
  refine Ops.box rfl rfl rfl rfl (fun w1 b0 hM1 => ?_)
  refine Ops.box rfl rfl rfl rfl (fun w2 b1 hM2 => ?_)
  refine Ops.alloc rfl rfl rfl rfl (fun w4 b3 hM4 => ?_)
  have hb24 := Mk.bel hM4
  have hb14 := Below.via (Mk.bel hM2) hb24
  have hb04 := Below.via (Mk.bel hM1) hb14
  have B0 : Blk w4 b0 #[S s] 9 := Blk.kp (w := w1) (hM1.at_) (kpF hb14) (fun e => e)
  have B1 : Blk w4 b1 #[.int .i64 n] 3 := Blk.kp (w := w2) (hM2.at_) (kpF hb24) (fun e => e)
  have B3 : Blk w4 b3 #[S []] 9 := hM4.at_
  have e3 := hM4.r_eq
  have s1 := hM1.size
  have s2 := hM2.size
  have s4 := hM4.size
  (repeat (first | with_reducible refine W.seq ?_ | with_reducible refine Ops.nil ?_ | with_reducible refine W.region ?_ | refine z_p (kk := ?_)))
  refine Ops.call rfl rfl rfl rfl rfl (guard_c (F := 76) (caps := [.pointer (some ⟨b0, 0, none⟩), .pointer (some ⟨b1, 0, none⟩), .pointer (some ⟨b3, 0, none⟩)]) (T := fun i => i = b3) (N := fun w1 w' => ∃ x, stepR s n = .ok x ∧ Blk w' b3 #[S x] 9) (E' := fun w1 w' e => stepR s n = .error e ∧ Kp (fun _ => False) w1 w') rfl (fun i h => by omega) (fun w5 hlt hb5 => Step1_c hs (hT.below (Below.via hb04 hb5)) (B0.kp (kpF hb5) (fun e => e)) (B1.kp (kpF hb5) (fun e => e)) (B3.kp (kpF hb5) (fun e => e)))) (fun r w' hR => ?_)
  obtain ⟨w5, w6, hlt, hb5, k56, k67, hor⟩ := hR
  have hfin : ∃ x e, x = outS (stepR s n) ∧ e = outE (stepR s n) ∧ r = .int .i64 e ∧ Blk w' b3 #[S x] 9 := by
    rcases hor with ⟨rfl, x, h1, h2⟩ | ⟨e, rfl, h1, h2⟩
    · exact ⟨x, 0, by rw [h1]; rfl, by rw [h1]; rfl, rfl, h2.kp k67 (fun h => by omega)⟩
    · exact ⟨[], e, by rw [h1]; rfl, by rw [h1]; rfl, rfl, ((B3.kp (kpF hb5) (fun e => e)).kp h2 (fun e => e)).kp k67 (fun h => by omega)⟩
  obtain ⟨x, e, hx, he, rfl, B3'⟩ := hfin
  have hb0' : Below w.heap.size w w' := Below.put (Below.put (Below.via hb04 hb5) k56 (fun i h => by omega)) k67 (fun i h => by omega)
  have hbww : Below w'.heap.size w' w' := Below.refl _ _
  rw [← hx, ← he]
  (repeat (first | with_reducible refine W.seq ?_ | with_reducible refine Ops.nil ?_ | with_reducible refine W.region ?_ | refine z_p (kk := ?_) | refine z_d (kk := ?_)))
  refine Ops.st rfl rfl rfl rfl rfl rfl rfl B3' (by simp) (fun w7 hu => ?_)
  have B7 : Blk w7 b3 #[S x] 9 := by simpa using hu.blk
  (repeat (first | with_reducible refine Ops.nil ?_ | refine z_p (kk := ?_)))
  exact W.fretW (vs := [_, _]) ⟨_, _, rfl, ⟨b3, 0, _, 9, rfl, rfl, B7, rfl⟩, _, _, rfl, rfl, rfl⟩ ⟨rfl, Below.put hb0' hu.kp (fun i h => by omega)⟩
end Go.Proofs.YtcmjlmnfdncajaaGreatDoor
/- append of zeros, elements of two cells. -/
namespace Go.Proofs.YtcmjlmnfdncajaaGreatDoor.VW
open Go Go.RowKit
section
variable {P : Program} [hT : Tab P] {n : Nat} {ds : List Deferred} {Φ : Post} {k : List It} {ρ : E} {w : World} {all : Array Oper} {l : List Oper} {md : Option (List Oper)}
theorem Ops.appZ2 {o : Oper} {d t u e by' : Nat} {x y : Operand} {z : Value} {i : Int} {kk : IntKind} (ho : o.op = .call { callee := .builtin .append, args := #[x, y], argTypes := #[t, u] }) (hd : o.dst = some d) (hg : o.guard = none)
    (ht : tyD P t = some (.slice e)) (hu : tyD P u = some (.int kk)) (hs : tyS P e = some 2) (hb : tyB P e = some (by' + 1)) (hz : tyZ P e = some z) (hzs : z.cells.size = 2) (hx : ev ρ x = some (.slice none 0 0)) (hy : ev ρ y = some (.int .i64 i)) (h0 : 0 < i) (h1 : i.toNat * (by' + 1) ≤ 140737488355328)
    (hk : ∀ r c w', w.heap.size ≤ r → i.toNat ≤ c → w'.ownsRow 0 e 2 (.slice (some ⟨r, 0, none⟩) 0 c) 0 [] → Kp (fun _ => False) w w' → Ops none P n ds all k Φ l ((d, .slice (some ⟨r, 0, none⟩) i.toNat c) :: ρ) w') : Ops none P n ds all k Φ (o :: l) ρ w := by
  obtain ⟨f, hi, h2, h3, h4⟩ := tyE_ok hs hb hz
  obtain ⟨m, rfl⟩ := Int.eq_ofNat_of_zero_le (Int.le_of_lt h0)
  simp only [Int.toNat_natCast] at h1 hk
  have hm : 0 < m := by omega
  have h5 : m ≤ m * (by' + 1) := Nat.le_mul_of_pos_right m (by omega)
  have h63 : (m : Int) ≤ 9223372036854775807 := by omega
  have hw : IntKind.i64.wrap (m : Int) = m := wrap_in ⟨by omega, h63⟩
  have hge : m ≤ grownCap w m 0 e := grownCap_ge w m 0 e
  have hle : grownCap w m 0 e ≤ maxLen := grownCap_le_maxLen w m 0 e (by simp only [maxLen]; omega)
  have hnb : ¬ (281474976710656 < (m : Int) * f.bytes) := by
    rw [h3]
    have : ((m * (by' + 1) : Nat) : Int) ≤ 281474976710656 := by omega
    push_cast at this
    push_cast
    omega
  have hnc : ¬ (281474976710656 < Builtin.nextslicecap m 0 * f.bytes) := by rw [nextslicecap_zero hm, h3]; omega
  have hn0 : ¬ (m = 0) := by omega
  have hnz : ¬ ((m : Int) < 0) := by omega
  have hn63 : ¬ (9223372036854775807 < (m : Int)) := by omega
  have hfn : (Builtin.firstCells f.size 0 (.slice none 0 0)).run P w.drew = .ok #[] w.drew := by simp [Builtin.firstCells]
  refine Ops.val hd hg (w' := w.drew.alloc (.cells (Builtin.zeroCells z.cells m ++ Builtin.zeroCells z.cells (grownCap w m 0 e - m)) e)) (v := .slice (some ⟨w.heap.size, 0, none⟩) m (grownCap w m 0 e)) (fun a hr => ?_) (hk _ _ _ (Nat.le_refl _) hge ?_ ?_)
  · simp [execOp, ho, resolve, invoke, builtin, hr.ev hx, hr.ev hy, Builtin.append_, run_und (td_slice (tyD_ok ht)), run_und (td_int (tyD_ok hu)), sizeOf, typeInfo, zeroValue, hi, h4, asInt, asIntOf, hw, hnb, hnc, hn0, hnz, hn63, Question.forced, newRow, grownCap, h2]
    rw [h2] at hfn
    rw [hfn]
    simp
    intro h
    omega
  · refine ⟨rfl, .inr ⟨w.heap.size, _, _, rfl, Nat.zero_le _, heap_alloc_new w.drew _, Nat.zero_le _, hle, ?_, rfl⟩⟩
    simp only [Array.size_append, size_zeroCells, hzs]
    omega
  · exact ⟨rfl, rfl, rfl, by simp, fun i hi _ => Below.heap_alloc w.drew _ i hi⟩
end
end Go.Proofs.YtcmjlmnfdncajaaGreatDoor.VW
namespace Go.Proofs.YtcmjlmnfdncajaaGreatDoor
open Go Go.RowKit Go.Proofs.YtcmjlmnfdncajaaGreatDoor.VW Go.Proofs.YtcmjlmnfdncajaaGreatDoor.TW
attribute [local irreducible] W Ops OrdA VW.Ord OrdX Wi OpsI OrdF
theorem growP_c {w : World} (i : Int) (h0 : 0 ≤ i) (h1 : i ≤ 1000000) : Calls Tryz.prog 131 #[.slice none 0 0, .int .i64 i] w (Ret fun r w' => PO w.heap.size w' r [] ∧ Below w.heap.size w w') := by
  refine calls_W (vs := [_, _]) Tryz.func131 rfl (by kernel_rfl) rfl ?_
  (repeat (first | with_reducible refine W.seq ?_ | with_reducible refine Ops.nil ?_ | with_reducible refine W.region ?_ | refine z_p (kk := ?_)))
  refine W.condF rfl (by first | rfl | assumption | (simp only [bnf] <;> omega) | (simp only [*, bnf]; done) | fail) ?_
  (repeat (first | with_reducible refine W.seq ?_ | with_reducible refine W.region ?_ | refine z_p (kk := ?_) | with_reducible refine W.skip ?_))
  refine Ops.cap rfl rfl rfl rfl rfl ?_
  (repeat (first | with_reducible refine W.seq ?_ | with_reducible refine Ops.nil ?_ | with_reducible refine W.region ?_ | refine z_p (kk := ?_) | refine z_a (kk := ?_) | refine z_l (kk := ?_)))
  by_cases hp : 0 < i
  · refine W.condT rfl (by first | (simp; done) | (simp; omega)) ?_
    (repeat (first | with_reducible refine W.region ?_ | refine z_p (kk := ?_)))
    refine Ops.cap rfl rfl rfl rfl rfl ?_
    refine Ops.slH rfl rfl rfl rfl rfl rfl rfl (by simp) (by simp) ?_
    (repeat (first | refine z_p (kk := ?_)))
    refine Ops.appZ2 rfl rfl rfl rfl rfl rfl rfl rfl rfl rfl rfl (by omega) (by omega) (fun r c w1 hr hcap hown k1 => ?_)
    have hb1 : Below w.heap.size w w1 := k1.below (Nat.le_refl _) (fun _ _ e => e)
    (repeat (first | refine z_p (kk := ?_) | refine z_l (kk := ?_)))
    refine Ops.slH rfl rfl rfl rfl rfl rfl rfl (by simp) (by simp) ?_
    (repeat (first | with_reducible refine W.seq ?_ | with_reducible refine Ops.nil ?_ | with_reducible refine W.region ?_ | refine z_p (kk := ?_)))
    refine W.fret rfl ⟨⟨hb1.size, tr_bel hb1.size, hown, fun k hk => ?_⟩, hb1⟩
    simp [resV, Value.ownBlock] at hk
    rw [tr_size hb1.size]
    omega
  · refine W.condF rfl (by first | (simp; done) | (simp; omega)) ?_
    (repeat (first | with_reducible refine W.seq ?_ | with_reducible refine Ops.nil ?_ | with_reducible refine W.region ?_ | refine z_p (kk := ?_) | with_reducible refine W.skip ?_))
    exact W.fret rfl ⟨PO.nil (Nat.le_refl _), Below.refl _ _⟩
set_option maxHeartbeats 4000000 in
theorem concatP_c {S' : Nat → Prop} {w : World} {r c : Nat} {svs : List Value} {xss : List (List (Value × Nat))} (hB : Blk w r svs.toArray 84) (hl : svs.length = xss.length) (hs : ∀ j, j < xss.length → R2 S' w (svs.getD j undef) (xss.getD j [])) (h1c : ∀ l, l ∈ xss → ∀ p, p ∈ l → p.1.oneCell' = true) (hsum : xss.flatten.length ≤ 1000000) (hn : xss.length ≤ 1000) :
    Calls Tryz.prog 117 #[.slice (some ⟨r, 0, none⟩) xss.length c] w (Ret fun v w' => PO w.heap.size w' v xss.flatten ∧ Below w.heap.size w w') := by
  have hcell : ∀ (w' : World) j, Below w.heap.size w w' → j < xss.length → w'.cell? ((⟨r, 0, none⟩ : Addr).add (j * 1)) = some (svs.getD j undef) := by
    intro w' j hb hj
    rw [Nat.mul_one, add_lit, Nat.zero_add]
    refine (hB.kp (Kp.of_below (S := fun _ => False) hb) (fun e => e)).cell ?_
    simp [List.getD_eq_getElem?_getD, hl, hj]
  have hpre : ∀ j, j ≤ xss.length → (xss.take j).flatten.length ≤ 1000000 := by
    intro j hj
    have : xss.flatten.length = (xss.take j).flatten.length + (xss.drop j).flatten.length := by
      rw [← List.length_append, ← List.flatten_append, List.take_append_drop]
    omega
  have hstep : ∀ j, j < xss.length → (xss.take (j + 1)).flatten = (xss.take j).flatten ++ xss.getD j [] := by
    intro j hj
    rw [List.take_succ_eq_append_getElem hj, List.flatten_append]
    simp [List.getD_eq_getElem?_getD, hj]
  have hmem : ∀ j, j < xss.length → xss.getD j [] ∈ xss := fun j hj => by
    rw [List.getD_eq_getElem?_getD, List.getElem?_eq_getElem hj]
    exact List.getElem_mem hj
  refine calls_W (vs := [_]) Tryz.func117 rfl (by kernel_rfl) rfl ?_
  (repeat (first | with_reducible refine W.seq ?_ | with_reducible refine Ops.nil ?_ | with_reducible refine W.region ?_ | refine z_p (kk := ?_) | with_reducible refine W.block ?_ | refine z_l (kk := ?_)))
  refine W.loop (fun m ρ w1 => ∃ j : Nat, m = xss.length - j ∧ j ≤ xss.length ∧ ρ = [(0, .slice (some ⟨r, 0, none⟩) xss.length c), (3, .int .i64 ((xss.take j).flatten.length : Nat)), (9, .slice (some ⟨r, 0, none⟩) xss.length c), (10, .int .i64 xss.length), (11, .int .i64 j)] ∧ w1 = w)
    ⟨_, _, ⟨0, rfl, Nat.zero_le _, rfl, rfl⟩, (by repeat (first | exact trivial | refine And.intro rfl ?_))⟩ ?_
  rintro m ρ w1 ⟨j, rfl, hj, rfl, rfl⟩
  (repeat (first | with_reducible refine W.seq ?_ | with_reducible refine Ops.nil ?_ | with_reducible refine W.region ?_ | refine z_p (kk := ?_)))
  (first | refine W.condD rfl (fun hc => ?_) (fun hc => ?_) | refine W.condE rfl (fun hc => ?_) (fun hc => ?_) | refine W.condN rfl (fun hc => ?_) (fun hc => ?_) | refine W.cond rfl (fun hc => ?_) (fun hc => ?_))
  · have hlt : j < xss.length := by omega
    have hsj := hs j hlt
    obtain ⟨Aj, cj, ej⟩ := hsj.sh
    have hp1 := hpre (j + 1) (by omega)
    rw [hstep j hlt, List.length_append] at hp1
    (repeat (first | with_reducible refine W.seq ?_ | with_reducible refine W.region ?_ | with_reducible refine W.skip ?_ | with_reducible refine W.block ?_))
    refine Ops.idx rfl rfl rfl rfl rfl rfl rfl (by omega) (by omega) (Ops.ld rfl rfl rfl rfl rfl (hcell w1 j (Below.refl _ _) hlt) ?_)
    rw [ej]
    (repeat (first | with_reducible refine W.seq ?_ | with_reducible refine Ops.nil ?_ | with_reducible refine W.region ?_ | refine z_p (kk := ?_) | refine z_a (kk := ?_) | refine z_l (kk := ?_)))
    refine W.condF rfl (by first | (simp; done) | (simp; omega)) ?_
    (repeat (first | with_reducible refine Ops.nil ?_ | with_reducible refine W.region ?_ | refine z_p (kk := ?_) | refine z_a (kk := ?_) | with_reducible refine W.skip ?_ | with_reducible refine W.endb ?_))
    refine W.endl ⟨_, _, ⟨⟨j + 1, rfl, by omega, rfl, rfl⟩, by omega⟩, ⟨rfl, ?_, rfl, rfl, rfl, trivial⟩⟩
    rw [hstep j hlt, List.length_append]
    rfl
  · have hlt : j = xss.length := by omega
    subst hlt
    rw [List.take_length]
    (repeat (first | with_reducible refine W.seq ?_ | with_reducible refine W.region ?_ | refine z_p (kk := ?_) | refine W.exit rfl ?_))
    refine Ops.call rfl rfl rfl rfl rfl (growP_c _ (by omega) (by omega)) (fun v w2 hI => ?_)
    obtain ⟨hI, hb2⟩ := hI
    (repeat (first | with_reducible refine W.seq ?_ | with_reducible refine Ops.nil ?_ | with_reducible refine W.region ?_ | refine z_p (kk := ?_) | with_reducible refine W.block ?_ | refine z_l (kk := ?_)))
    refine W.loop (fun m ρ w2 => ∃ (j : Nat) (v : Value), m = xss.length - j ∧ j ≤ xss.length ∧ ρ = [(6, v), (25, .slice (some ⟨r, 0, none⟩) xss.length c), (26, .int .i64 xss.length), (27, .int .i64 j)] ∧ PO w1.heap.size w2 v (xss.take j).flatten ∧ Below w1.heap.size w1 w2)
      ⟨_, _, ⟨0, v, rfl, Nat.zero_le _, rfl, hI, hb2⟩, (by repeat (first | exact trivial | refine And.intro rfl ?_))⟩ ?_
    rintro m ρ w2 ⟨j, v, rfl, hj, rfl, hI, hb2⟩
    (repeat (first | with_reducible refine W.seq ?_ | with_reducible refine Ops.nil ?_ | with_reducible refine W.region ?_ | refine z_p (kk := ?_)))
    (first | refine W.condD rfl (fun hc => ?_) (fun hc => ?_) | refine W.condE rfl (fun hc => ?_) (fun hc => ?_) | refine W.condN rfl (fun hc => ?_) (fun hc => ?_) | refine W.cond rfl (fun hc => ?_) (fun hc => ?_))
    · have hlt : j < xss.length := by omega
      have hp1 := hpre (j + 1) (by omega)
      rw [hstep j hlt, List.length_append] at hp1
      (repeat (first | with_reducible refine W.seq ?_ | with_reducible refine W.region ?_ | with_reducible refine W.skip ?_ | with_reducible refine W.block ?_))
      refine Ops.idx rfl rfl rfl rfl rfl rfl rfl (by omega) (by omega) (Ops.ld rfl rfl rfl rfl rfl (hcell w2 j hb2 hlt) ?_)
      (repeat (first | with_reducible refine Ops.nil ?_ | with_reducible refine W.region ?_ | refine z_p (kk := ?_)))
      refine Ops.appP rfl rfl rfl rfl rfl rfl rfl rfl rfl hI.2 ((hs j hlt).below hb2) (h1c _ (hmem j hlt)) (by omega) (fun v' w3 hO k3 hn3 => ?_)
      have hI3 := po_put hI (tr_size hI.1) hO k3.size
      rw [← hstep j hlt] at hI3
      (repeat (first | with_reducible refine Ops.nil ?_ | with_reducible refine W.region ?_ | refine z_p (kk := ?_) | refine z_a (kk := ?_) | with_reducible refine W.endb ?_))
      exact W.endl ⟨_, _, ⟨⟨j + 1, v', rfl, by omega, rfl, hI3, Below.put hb2 k3 (fun i hi => po_ge hI i hi)⟩, by omega⟩, (by repeat (first | exact trivial | refine And.intro rfl ?_))⟩
    · have hlt : j = xss.length := by omega
      subst hlt
      rw [List.take_length] at hI
      (repeat (first | with_reducible refine W.seq ?_ | with_reducible refine Ops.nil ?_ | with_reducible refine W.region ?_ | refine z_p (kk := ?_) | refine W.exit rfl ?_))
      exact W.fret rfl ⟨hI, hb2⟩
end Go.Proofs.YtcmjlmnfdncajaaGreatDoor
namespace Go.Proofs.YtcmjlmnfdncajaaGreatDoor
open Go Go.RowKit Go.Proofs.YtcmjlmnfdncajaaGreatDoor.VW Go.Proofs.YtcmjlmnfdncajaaGreatDoor.TW
attribute [local irreducible] W Ops OrdA VW.Ord OrdX Wi OpsI OrdF
/-- A list of parts in memory: the first one and the others. -/
theorem OA_cons {S : Nat → Prop} {w : World} {o : Od} {l : List (Value × Nat)} (h : OA S w o l) (hp : 0 < l.length) : ∃ e c r v l', o = .cons e c r ∧ l = (v, c) :: l' ∧ OM S w v e ∧ OA S w r l' := by
  cases o with
  | nil =>
    have : l = [] := h
    subst this
    simp at hp
  | cons e c r =>
    obtain ⟨v, l', le, h1, h2, h3, h4⟩ := h
    exact ⟨e, c, r, v, l', rfl, h1, ⟨le, h2, h3⟩, h4⟩
theorem OA_nil {S : Nat → Prop} {w : World} {o : Od} {l : List (Value × Nat)} (h : OA S w o l) (hp : l.length = 0) : o = .nil := by
  have := h.len
  exact lenO_zero.1 (by omega)
set_option maxHeartbeats 8000000 in
theorem blend_c {S' : Nat → Prop} {w : World} {va vb : Value} {a b : Od} (hS : ∀ i, S' i → i < w.heap.size) (hA : OM S' w va a) (hB : OM S' w vb b) (hza : szO a ≤ 100000) (hzb : szO b ≤ 100000) (hta : topO a ≤ 10000000) (htb : topO b ≤ 10000000) :
    Calls Tryz.prog 96 #[va, vb] w (RetP (fun r w' => bigT (blO a b) = false ∧ OM S' w' r (blO a b) ∧ Below w.heap.size w w') (fun ch w' => ch = trb 5 ∧ bigT (blO a b) = true ∧ Below w.heap.size w w')) := by
  have hsz := bl_sizes a b
  have hlz := len_le_sz (blO a b)
  obtain ⟨la, hRa, hAa⟩ := hA
  obtain ⟨lb, hRb, hAb⟩ := hB
  have hla := hAa.len
  have hlb := hAb.len
  have hza' := len_le_sz a
  have hzb' := len_le_sz b
  obtain ⟨Aa, ca, rfl⟩ := hRa.sh
  obtain ⟨Ab, cb, rfl⟩ := hRb.sh
  refine calls_WP (vs := [_, _]) Tryz.func96 rfl (by kernel_rfl) rfl ?_
  (repeat (first | with_reducible refine W.seq ?_ | with_reducible refine Ops.nil ?_ | with_reducible refine W.region ?_ | refine z_p (kk := ?_) | with_reducible refine W.block ?_))
  refine W.loop (fun m ρ w3 => ∃ (a' b' acc : Od) (la' lb' l : List (Value × Nat)) (Aa Ab : Option Addr) (ca cb : Nat) (ov : Value), m = la'.length + lb'.length ∧ ρ = [(0, .slice Aa la'.length ca), (1, .slice Ab lb'.length cb), (5, ov)] ∧
      Below w.heap.size w w3 ∧ PO w.heap.size w3 ov l ∧ OA S' w acc l ∧ R2 S' w (.slice Aa la'.length ca) la' ∧ R2 S' w (.slice Ab lb'.length cb) lb' ∧ OA S' w a' la' ∧ OA S' w b' lb' ∧ blO a b = appO acc (blO a' b') ∧ lenO acc + lenO a' + lenO b' ≤ 200000 ∧ topO a' ≤ 10000000 ∧ topO b' ≤ 10000000)
    ⟨_, _, ⟨a, b, .nil, la, lb, [], _, _, _, _, _, rfl, rfl, Below.refl _ _, PO.nil (by omega), rfl, hRa, hRb, hAa, hAb, rfl, by simp only [lenO]; omega, hta, htb⟩, (by repeat (first | exact trivial | refine And.intro rfl ?_))⟩ ?_
  clear hRa hRb hAa hAb
  rintro m ρ w3 ⟨a', b', acc, la', lb', l, Aa, Ab, ca, cb, ov, rfl, rfl, hb03, hP, hAc, hRa, hRb, hAa, hAb, heq, hlen, ha', hb'⟩
  have hPs := hP.1
  have hlac := hAc.len
  have hlaa := hAa.len
  have hlbb := hAb.len
  have hb33 : Below w3.heap.size w3 w3 := Below.refl _ _
  by_cases hgo : 0 < la'.length ∧ 0 < lb'.length
  · obtain ⟨hg1, hg2⟩ := hgo
    obtain ⟨ae, ac, ar, ve, la2, rfl, rfl, hEa, hAr⟩ := OA_cons hAa hg1
    obtain ⟨be, bc, br, vf, lb2, rfl, rfl, hEb, hBr⟩ := OA_cons hAb hg2
    have ha1 := hEa.one
    have hb1 := hEb.one
    have hRa3 := hRa.below hb03
    have hRb3 := hRb.below hb03
    simp only [topO] at ha' hb'
    have hl1 : ((ve, ac) :: la2).length = la2.length + 1 := rfl
    have hl2 : ((vf, bc) :: lb2).length = lb2.length + 1 := rfl
    simp only [lenO] at hlen
    have hda := hRa.slD (q := 1) (by simp)
    have hdb := hRb.slD (q := 1) (by simp)
    simp only [List.drop_succ_cons, List.drop_zero] at hda hdb
    obtain ⟨A2, c2, hv2⟩ := hda.sh
    obtain ⟨B2, d2, hw2⟩ := hdb.sh
    (repeat (first | with_reducible refine W.seq ?_ | with_reducible refine Ops.nil ?_ | with_reducible refine W.region ?_ | refine z_p (kk := ?_) | refine z_y (kk := ?_) | refine z_l (kk := ?_) | refine z_h (kk := ?_)))
    refine W.condT rfl (by first | rfl | (simp; done) | (simp; omega)) ?_
    (repeat (first | with_reducible refine W.seq ?_ | with_reducible refine W.skip ?_ | with_reducible refine W.block ?_))
    refine W.ordA 99 [(0, 1), (1, 1), (2, 1), (3, 2), (4, 1), (5, 1), (6, 1), (7, 2), (8, 2)] rfl (by kernel_rfl) rfl (by kernel_rfl) (fun _ _ _ h => h) ?_
    (repeat (first | refine x_p (kk := ?_) | refine x_R0 (kk := fun _ _ => ?_)))
    refine OrdA.call rfl rfl rfl rfl rfl rfl rfl (fun w' hw' => Calls.via hw' (compare_c _ (Nat.le_refl _) (hEa.below (Below.via hb03 hw')) (hEb.below (Below.via hb03 hw')))) ?_
    refine OrdA.nil (fun w5 hb35 => ?_)
    have hb05 := Below.via hb03 hb35
    have hb55 : Below w5.heap.size w5 w5 := Below.refl _ _
    have hP5 := po_kp hP (kpF hb35) (fun _ _ e => e)
    have hRa5 := hRa.below hb05
    have hRb5 := hRb.below hb05
    clear hRa3 hRb3 hb33
    (repeat (first | with_reducible refine W.seq ?_ | with_reducible refine Ops.nil ?_ | with_reducible refine W.region ?_ | refine z_p (kk := ?_) | with_reducible refine W.block ?_))
    rcases cmp_rng ae be with hx | hx | hx
    · rw [blO_cons, if_neg (by omega), if_pos hx, appO_cons_snoc] at heq
      rw [hx]
      refine W.condF rfl (by first | rfl | assumption | (simp only [bnf] <;> omega) | (simp only [*, bnf]; done) | fail) ?_
      (repeat (first | with_reducible refine W.seq ?_ | with_reducible refine Ops.nil ?_ | with_reducible refine W.region ?_ | refine z_p (kk := ?_)))
      refine W.condT rfl (by first | rfl | assumption | (simp only [bnf] <;> omega) | (simp only [*, bnf]; done) | fail) ?_
      (repeat (first | with_reducible refine W.seq ?_ | with_reducible refine W.region ?_ | refine z_p (kk := ?_) | refine z_R2 (kk := fun _ => ?_)))
      refine Ops.pushP (fa := pA) (fb := pB) (z := (vf, bc)) rfl rfl rfl rfl rfl rfl rfl rfl rfl rfl rfl (fun _ => rfl) hb1 rfl hP5.2 (by omega) (fun lv' p w7 hO7 k7 hn7 => ?_)
      have hP7 := po_put hP5 (tr_size hP5.1) hO7 k7.size
      have hAs := OA_snoc (c := bc) hEb hAc
      have hls : lenO (snocO acc be bc) = lenO acc + 1 := by unfold snocO; rw [lenO_app]; rfl
      (repeat (first | with_reducible refine Ops.nil ?_ | with_reducible refine W.region ?_ | refine z_p (kk := ?_)))
      refine z_ev (EV.slP (q := 1) rfl rfl rfl rfl rfl (by omega)) (kk := ?_)
      rw [show ((vf, bc) :: lb2).length = lb2.length + 1 from rfl] at hw2 hdb ⊢
      rw [hw2] at hdb ⊢
      (repeat (first | with_reducible refine Ops.nil ?_ | refine z_p (kk := ?_) | with_reducible refine W.endb ?_))
      exact W.endl ⟨_, _, ⟨⟨.cons ae ac ar, br, snocO acc be bc, (ve, ac) :: la2, lb2, l ++ [(vf, bc)], Aa, B2, ca, d2, lv', rfl, rfl, Below.put hb05 k7 (fun j hj => po_ge hP5 j hj), hP7, hAs, hRa, hdb, hAa, hBr, heq, by simp only [lenO]; omega, by simp only [topO]; omega, by omega⟩, by simp⟩, (by repeat (first | exact trivial | refine And.intro rfl ?_))⟩
    · rw [blO_cons, if_neg (by omega), if_neg (by omega), appO_cons_snoc] at heq
      rw [hx]
      refine W.condF rfl (by first | rfl | assumption | (simp only [bnf] <;> omega) | (simp only [*, bnf]; done) | fail) ?_
      (repeat (first | with_reducible refine W.seq ?_ | with_reducible refine Ops.nil ?_ | with_reducible refine W.region ?_ | refine z_p (kk := ?_)))
      refine W.condF rfl (by first | rfl | assumption | (simp only [bnf] <;> omega) | (simp only [*, bnf]; done) | fail) ?_
      (repeat (first | with_reducible refine W.seq ?_))
      refine W.ordA 15 [(0, 1), (1, 1), (2, 1), (3, 1), (4, 2), (5, 1), (6, 1), (7, 1), (8, 2), (9, 1), (10, 1), (11, 1), (12, 2), (13, 1), (14, 1), (15, 0), (16, 0), (17, 1)] rfl (by kernel_rfl) rfl (by kernel_rfl) (fun _ _ _ h => h) ?_
      (repeat (first | refine x_p (kk := ?_) | refine x_R0 (kk := fun _ _ => ?_) | refine x_R1 (kk := fun _ _ => ?_)))
      rw [show (((ve, ac) :: la2).getD 0 default).2 = ac from rfl, show (((vf, bc) :: lb2).getD 0 default).2 = bc from rfl]
      (repeat (first | refine x_a (kk := ?_)))
      rw [show ((ac : Nat) : Int) + ((bc : Nat) : Int) = ((ac + bc : Nat) : Int) by omega]
      refine x_ev rfl (fun _ => EV.bld2 rfl rfl rfl rfl rfl ha1 rfl) (kk := ?_)
      refine OrdA.tail (fun w6 hb6 => ?_)
      have hb06 := Below.via hb05 hb6
      have hP6 := po_kp hP5 (kpF hb6) (fun _ _ e => e)
      refine VW.Ord.pushP (z := (ve, ac + bc)) rfl rfl rfl rfl rfl rfl rfl rfl rfl rfl rfl rfl rfl (fun _ => rfl) ha1 rfl hP6.2 (by omega) (fun lv' p w7 hO7 k7 hn7 => ?_)
      have hP7 := po_put hP6 (tr_size hP6.1) hO7 k7.size
      have hAs := OA_snoc (c := ac + bc) hEa hAc
      have hls : lenO (snocO acc ae (ac + bc)) = lenO acc + 1 := by unfold snocO; rw [lenO_app]; rfl
      (repeat (first | refine y_p (kk := ?_)))
      refine VW.Ord.nil ?_
      skip
      refine W.ordA 99 [(0, 1), (1, 1), (2, 1), (3, 1), (4, 1), (5, 1)] rfl (by kernel_rfl) rfl (by kernel_rfl) (fun _ _ _ h => h) ?_
      (repeat (first | refine x_p (kk := ?_)))
      refine x_ev rfl (fun _ => EV.slP (q := 1) rfl rfl rfl rfl rfl (by omega)) (kk := ?_)
      (repeat (first | refine x_p (kk := ?_)))
      refine x_ev rfl (fun _ => EV.slP (q := 1) rfl rfl rfl rfl rfl (by omega)) (kk := ?_)
      rw [show ((vf, bc) :: lb2).length = lb2.length + 1 from rfl] at hw2 hdb ⊢
      rw [show ((ve, ac) :: la2).length = la2.length + 1 from rfl] at hv2 hda ⊢
      rw [hw2] at hdb ⊢
      rw [hv2] at hda ⊢
      (repeat (first | refine x_p (kk := ?_)))
      refine OrdA.nil (fun w8 hb8 => ?_)
      have hb08 := Below.via (Below.put hb06 k7 (fun j hj => po_ge hP6 j hj)) hb8
      have hP8 := po_kp hP7 (kpF hb8) (fun _ _ e => e)
      (repeat (first | with_reducible refine W.endb ?_))
      exact W.endl ⟨_, _, ⟨⟨ar, br, snocO acc ae (ac + bc), la2, lb2, l ++ [(ve, ac + bc)], A2, B2, c2, d2, lv', rfl, rfl, hb08, hP8, hAs, hda, hdb, hAr, hBr, heq, by omega, by omega, by omega⟩, by first | omega | (simp; omega)⟩, (by repeat (first | exact trivial | refine And.intro rfl ?_))⟩
    · rw [blO_cons, if_pos hx, appO_cons_snoc] at heq
      rw [hx]
      refine W.condT rfl (by first | rfl | assumption | (simp only [bnf] <;> omega) | (simp only [*, bnf]; done) | fail) ?_
      (repeat (first | with_reducible refine W.seq ?_ | with_reducible refine W.region ?_ | refine z_p (kk := ?_) | refine z_R2 (kk := fun _ => ?_)))
      refine Ops.pushP (fa := pA) (fb := pB) (z := (ve, ac)) rfl rfl rfl rfl rfl rfl rfl rfl rfl rfl rfl (fun _ => rfl) ha1 rfl hP5.2 (by omega) (fun lv' p w7 hO7 k7 hn7 => ?_)
      have hP7 := po_put hP5 (tr_size hP5.1) hO7 k7.size
      have hAs := OA_snoc (c := ac) hEa hAc
      have hls : lenO (snocO acc ae ac) = lenO acc + 1 := by unfold snocO; rw [lenO_app]; rfl
      (repeat (first | with_reducible refine Ops.nil ?_ | with_reducible refine W.region ?_ | refine z_p (kk := ?_)))
      refine z_ev (EV.slP (q := 1) rfl rfl rfl rfl rfl (by omega)) (kk := ?_)
      rw [show ((ve, ac) :: la2).length = la2.length + 1 from rfl] at hv2 hda ⊢
      rw [hv2] at hda ⊢
      (repeat (first | with_reducible refine Ops.nil ?_ | refine z_p (kk := ?_) | with_reducible refine W.endb ?_))
      exact W.endl ⟨_, _, ⟨⟨ar, .cons be bc br, snocO acc ae ac, la2, (vf, bc) :: lb2, l ++ [(ve, ac)], A2, Ab, c2, cb, lv', rfl, rfl, Below.put hb05 k7 (fun j hj => po_ge hP5 j hj), hP7, hAs, hda, hRb, hAr, hAb, heq, by simp only [lenO]; omega, by omega, by simp only [topO]; omega⟩, by simp⟩, (by repeat (first | exact trivial | refine And.intro rfl ?_))⟩
  · have hor : la'.length = 0 ∨ lb'.length = 0 := by omega
    have heq' : blO a b = appO acc (appO a' (appO b' .nil)) := by
      rw [heq]
      rcases hor with h | h
      · rw [OA_nil hAa h, appO_nil]; rfl
      · rw [OA_nil hAb h, blO_nil]; show appO acc a' = appO acc (appO a' .nil); rw [appO_nil]
    have hl1 : la'.length ≠ 0 → lb'.length = 0 := by omega
    obtain ⟨Ao, co, hov⟩ := hP.2.sh
    have ho1 : ov.oneCell' = true := by rw [hov]; rfl
    have hRl : R2 S' w3 ov l := po_R2 hP (by omega) (fun j hj h => by have := po_ge hP j hj; have := hS j h; omega)
    have hRa3 := hRa.below hb03
    have hRb3 := hRb.below hb03
    have hOA := OA_app hAc (OA_app hAa hAb)
    rw [show appO acc (appO a' b') = blO a b by rw [heq', appO_nil]] at hOA
    have h1c : ∀ x, x ∈ [l, la', lb'] → ∀ p, p ∈ x → p.1.oneCell' = true := fun x hx => by
      simp only [List.mem_cons, List.not_mem_nil, or_false] at hx
      rcases hx with rfl | rfl | rfl
      · exact OA_one hAc
      · exact OA_one hAa
      · exact OA_one hAb
    by_cases hl0 : la'.length = 0
    all_goals (
      (repeat (first | with_reducible refine W.seq ?_ | with_reducible refine Ops.nil ?_ | with_reducible refine W.region ?_ | refine z_p (kk := ?_) | refine z_y (kk := ?_) | refine z_n (kk := ?_) | refine z_l (kk := ?_) | refine z_g (kk := ?_) | refine z_h (kk := ?_)))
      refine W.condF rfl (by first | rfl | (simp; done) | (simp [hl1 hl0]; done) | (simp; omega)) ?_
      (repeat (first | with_reducible refine W.seq ?_ | with_reducible refine W.region ?_ | refine z_p (kk := ?_) | refine W.exit rfl ?_))
      refine Ops.bsG (cs := #[ov, .slice Aa la'.length ca, .slice Ab lb'.length cb]) (vs := [(0, ov), (1, .slice Aa la'.length ca), (2, .slice Ab lb'.length cb)]) rfl rfl rfl rfl rfl rfl rfl rfl rfl (by rw [hov]; simp [Instr.fill, Value.cells, show Array.range 3 = #[0, 1, 2] from rfl]) (fun w4 r hM4 => ?_)
      have hb34 := Mk.bel hM4
      have hb04 := Below.via hb03 hb34
      refine Ops.call rfl rfl rfl rfl rfl (concatP_c (S' := S') (svs := [ov, .slice Aa la'.length ca, .slice Ab lb'.length cb]) (xss := [l, la', lb']) hM4.at_ rfl (fun j hj => by
        match j, hj with
        | 0, _ => exact hRl.below hb34
        | 1, _ => exact hRa3.below hb34
        | 2, _ => exact hRb3.below hb34) h1c (by simp; omega) (by simp)) (fun v5 w5 hR => ?_)
      obtain ⟨hP5, hb45⟩ := hR
      have hb05 := Below.via hb04 hb45
      have hs4 := hb04.size
      have hM5 : OM S' w5 v5 (blO a b) := by
        refine ⟨_, po_R2 hP5 (by simp; omega) (fun j hj h => by have := po_ge hP5 j hj; have := hS j h; omega), ?_⟩
        have := hOA.kp (Kp.of_below (S := fun _ => False) hb05) (fun _ e => e.elim)
        simpa using this
      refine Ops.callP rfl rfl rfl rfl rfl (checked_c hM5 (by omega)) (fun r w7 hR => ?_) (fun ch w7 hR => ?_)
      · obtain ⟨rfl, hbig, hb67⟩ := hR
        (repeat (first | with_reducible refine Ops.nil ?_ | refine z_p (kk := ?_)))
        exact W.fretP rfl ⟨hbig, hM5.below hb67, Below.via hb05 hb67⟩
      · obtain ⟨rfl, hbig, hb67⟩ := hR
        exact ⟨rfl, hbig, Below.via hb05 hb67⟩)
def blG (a b : Od) : Except Int Od := if bigT (blO a b) = true then .error 5 else .ok (blO a b)
theorem blend_fun : FunO 96 blG := ⟨rfl, fun {S' w va vb a b} hS hA hB na nb sa sb za zb => by
  have h1 := small_most sa
  have h2 := small_most sb
  have h3 := most_top a
  have h4 := most_top b
  have hsz := bl_sizes a b
  have h5 := most_eq (blO a b)
  have h6 := exM_le a
  have h7 := exM_le b
  refine (blend_c hS hA hB (by omega) (by omega) (by omega) (by omega)).mono fun e w' h => ?_
  rcases h with ⟨v, he, h5, h6, h7⟩ | ⟨ch, he, h5, h6, h7⟩
  · exact .inl ⟨v, he, blO a b, by unfold blG; rw [if_neg (by rw [h5]; simp)], h6, h7, by omega, by omega⟩
  · exact .inr ⟨ch, he, 5, h5, by unfold blG; rw [if_pos h6], h7⟩⟩
theorem Blend_c {w : World} {s t : List UInt8} (hs : s.length ≤ 4294967295) (ht : t.length ≤ 4294967295) (hT : Tbl w) :
    Calls Tryz.prog 50 #[S s, S t] w (Ret fun r w' => r = .tuple #[S (outS (bothR blG s t)), .int .i64 (outE (bothR blG s t))] ∧ Below w.heap.size w w') := by
  refine calls_W (vs := [_, _]) Tryz.func50 rfl (by kernel_rfl) rfl ?_
  (repeat (first | with_reducible refine W.seq ?_ | with_reducible refine Ops.nil ?_ | with_reducible refine W.region ?_ | refine z_p (kk := ?_)))
  refine Ops.call rfl rfl rfl rfl rfl (both_c blend_fun hs ht hT) (fun r w1 hR => ?_)
  obtain ⟨rfl, hb1⟩ := hR
  (repeat (first | with_reducible refine Ops.nil ?_ | refine z_p (kk := ?_)))
  exact W.fret rfl ⟨rfl, hb1⟩
end Go.Proofs.YtcmjlmnfdncajaaGreatDoor
namespace Go.Proofs.YtcmjlmnfdncajaaGreatDoor
open Go Go.RowKit Go.Proofs.YtcmjlmnfdncajaaGreatDoor.VW Go.Proofs.YtcmjlmnfdncajaaGreatDoor.TW
attribute [local irreducible] W Ops OrdA VW.Ord OrdX Wi OpsI OrdF
theorem one_lit {S' : Nat → Prop} {w w1 : World} {r c : Nat} {va : Value} {a : Od} (hS : ∀ i, S' i → i < w.heap.size) (hA : OM S' w va a) (hM : Mk w w1 r (.cells #[va, .int .i64 (c : Int)] 119)) : OM S' w1 (.slice (some ⟨r, 0, none⟩) 1 1) (.cons a c .nil) := by
  have e1 := hM.r_eq
  have B1 : Blk w1 r #[va, .int .i64 (c : Int)] 119 := hM.at_
  refine ⟨[(va, c)], ⟨_, _, rfl, ⟨Nat.le_refl _, by simp⟩, fun _ => ⟨_, rfl, fun h => by have := hS _ h; simp only at this; omega, fun j hj => ?_⟩⟩, ?_⟩
  · simp at hj
    subst hj
    exact ⟨B1.cell rfl, B1.cell rfl⟩
  · obtain ⟨le, h1, h2⟩ := hA
    exact ⟨va, [], le, rfl, h1.below (Mk.bel hM), h2.kp (kpF (Mk.bel hM)) (fun _ e => e.elim), rfl⟩
theorem big_l {a b : Od} (h : bigT a = true) : bigT (blO a b) = true := by
  have h1 := of_decide_eq_true h
  have h2 := bl_sizes a b
  exact decide_eq_true (by omega)
theorem big_r {a b : Od} (h : bigT b = true) : bigT (blO a b) = true := by
  have h1 := of_decide_eq_true h
  have h2 := bl_sizes a b
  exact decide_eq_true (by omega)
set_option maxHeartbeats 8000000 in
theorem rank_c : ∀ (n : Nat) {S' : Nat → Prop} {w : World} {v : Value} {f : Fo}, szF f ≤ n → n ≤ 1000 → (∀ i, S' i → i < w.heap.size) → HM S' w v f →
    Calls Tryz.prog 90 #[.iface 104 v] w (RetP (fun r w' => bigT (msF f) = false ∧ OM S' w' r (msF f) ∧ Below w.heap.size w w') (fun ch w' => ch = trb 5 ∧ bigT (msF f) = true ∧ Below w.heap.size w w')) := by
  intro n
  induction n using Nat.strongRecOn with
  | _ n ih =>
  intro S' w v f hn hbig hS hM
  obtain ⟨l, hR, hA⟩ := hM
  have hl := hA.len
  have hls := lenF_sz f
  obtain ⟨A, c, rfl⟩ := hR.sh
  refine calls_WP (vs := [_]) Tryz.func90 rfl (by kernel_rfl) rfl ?_
  (repeat (first | with_reducible refine W.seq ?_ | with_reducible refine Ops.nil ?_ | with_reducible refine W.region ?_ | refine z_p (kk := ?_) | with_reducible refine W.block ?_))
  refine z_ev (EV.asN rfl rfl rfl rfl rfl rfl) (kk := ?_)
  (repeat (first | with_reducible refine Ops.nil ?_ | refine z_p (kk := ?_)))
  refine W.condF rfl (by first | rfl | assumption | (simp only [bnf] <;> omega) | (simp only [*, bnf]; done) | fail) ?_
  (repeat (first | with_reducible refine W.seq ?_ | with_reducible refine W.region ?_))
  refine z_ev (EV.asY rfl rfl rfl rfl) (kk := ?_)
  (repeat (first | with_reducible refine Ops.nil ?_ | refine z_p (kk := ?_)))
  refine W.condT rfl (by first | rfl | assumption | (simp only [bnf] <;> omega) | (simp only [*, bnf]; done) | fail) ?_
  (repeat (first | with_reducible refine W.seq ?_ | with_reducible refine Ops.nil ?_ | with_reducible refine W.region ?_ | refine z_p (kk := ?_) | with_reducible refine W.block ?_ | refine z_l (kk := ?_)))
  refine W.loop (fun m ρ w1 => ∃ (i : Nat) (acc : Od) (va : Value), m = l.length - i ∧ i ≤ l.length ∧ Below w.heap.size w w1 ∧ OM S' w1 va acc ∧ bigT acc = false ∧ msF f = blO acc (msF (dropF f i)) ∧ ρ = [(5, va), (16, .slice A l.length c), (17, .int .i64 l.length), (18, .int .i64 i)])
    ⟨_, _, ⟨0, .nil, _, rfl, Nat.zero_le _, Below.refl _ _, OM.nil, rfl, by rw [dropF_zero]; rfl, rfl⟩, (by repeat (first | exact trivial | refine And.intro rfl ?_))⟩ ?_
  rintro m ρ w1 ⟨i, acc, va, rfl, hi, hb1, hO, hba, hacc, rfl⟩
  have hb11 : Below w1.heap.size w1 w1 := Below.refl _ _
  have hR1 := hR.below hb1
  (repeat (first | with_reducible refine W.seq ?_ | with_reducible refine Ops.nil ?_ | with_reducible refine W.region ?_ | refine z_p (kk := ?_)))
  (first | refine W.condD rfl (fun hc => ?_) (fun hc => ?_) | refine W.condE rfl (fun hc => ?_) (fun hc => ?_) | refine W.condN rfl (fun hc => ?_) (fun hc => ?_) | refine W.cond rfl (fun hc => ?_) (fun hc => ?_))
  · have hil : i < l.length := by omega
    have aM := (hA.at_ (i := i) (by omega)).below hb1
    have hsz := nthF_sz (f := f) (i := i) (by omega)
    have hs1 := hb1.size
    rw [dropF_cons (by omega), show msF (.cons (nthF f i) (dropF f (i + 1))) = blO (.cons (msF (nthF f i)) 1 .nil) (msF (dropF f (i + 1))) from rfl] at hacc
    generalize hva : l.getD i default = vk at *
    (repeat (first | with_reducible refine W.seq ?_ | with_reducible refine Ops.nil ?_ | with_reducible refine W.region ?_ | refine z_p (kk := ?_) | with_reducible refine W.skip ?_ | with_reducible refine W.block ?_ | refine z_H (kk := fun _ => ?_) | refine z_ev (EV.mkI rfl rfl rfl rfl) (kk := ?_)))
    rw [hva]
    refine Ops.callP rfl rfl rfl rfl rfl (ih _ (show szF (nthF f i) < n by omega) (Nat.le_refl _) (by omega) (fun j hj => by have := hS j hj; omega) aM) (fun r w2 hR => ?_) (fun ch w2 hR => ?_)
    rotate_left
    · obtain ⟨rfl, hbg, hb2⟩ := hR
      refine ⟨rfl, ?_, Below.via hb1 hb2⟩
      rw [hacc]
      refine big_r (big_l ?_)
      have h1 := of_decide_eq_true hbg
      have h2 := ms_sizes (nthF f i)
      have h3 := most_top (msF (nthF f i))
      exact decide_eq_true (by simp only [topO, szO]; omega)
    obtain ⟨hbg, hE, hb2⟩ := hR
    have hb02 := Below.via hb1 hb2
    have hs2 := hb02.size
    have hO2 := hO.below hb2
    have ha1 := hE.one
    have z1 := of_decide_eq_false hbg
    have z2 := of_decide_eq_false hba
    skip
    refine Ops.bld2 rfl rfl rfl rfl rfl rfl rfl ha1 rfl ?_
    refine Ops.bsG (cs := #[r, .int .i64 ((1 : Nat) : Int)]) (vs := [(0, .agg #[r, .int .i64 ((1 : Nat) : Int)])]) rfl rfl rfl rfl rfl rfl rfl rfl rfl (by simp [Instr.fill, Value.cells, show Array.range 2 = #[0, 1] from rfl]) (fun w3 b hM => ?_)
    have hb3 := Mk.bel hM
    have hb03 := Below.via hb02 hb3
    have hs3 := hb03.size
    have hL := one_lit (S' := S') (fun j hj => by have := hS j hj; omega) hE hM
    refine Ops.callP rfl rfl rfl rfl rfl (blend_c (S' := S') (fun j hj => by have := hS j hj; omega) (hO2.below hb3) hL (by omega) (by simp only [szO]; omega) (by omega) (by simp only [topO]; omega)) (fun r4 w4 hR => ?_) (fun ch w4 hR => ?_)
    rotate_left
    · obtain ⟨rfl, hbg4, hb4⟩ := hR
      refine ⟨rfl, ?_, Below.via hb03 hb4⟩
      rw [hacc, ← bl_assoc]
      exact big_l hbg4
    obtain ⟨hbg4, hO4, hb4⟩ := hR
    (repeat (first | with_reducible refine Ops.nil ?_ | with_reducible refine W.region ?_ | refine z_p (kk := ?_) | refine z_a (kk := ?_) | with_reducible refine W.endb ?_))
    exact W.endl ⟨_, _, ⟨⟨i + 1, _, r4, rfl, by omega, Below.via hb03 hb4, hO4, hbg4, by rw [hacc, bl_assoc], rfl⟩, by omega⟩, (by repeat (first | exact trivial | refine And.intro rfl ?_))⟩
  · have hil : i = l.length := by omega
    subst hil
    rw [hl, dropF_len, show msF .nil = .nil from rfl, blO_nil] at hacc
    subst hacc
    (repeat (first | with_reducible refine W.seq ?_ | with_reducible refine Ops.nil ?_ | with_reducible refine W.region ?_ | refine z_p (kk := ?_) | refine W.exit rfl ?_))
    exact W.fretP rfl ⟨hba, hO, hb1⟩
def headR (s : List UInt8) : Except Int Nat := match rdHA s with
  | none => .error 4
  | some f => .ok (heF f)
def measR (s : List UInt8) : Except Int (List UInt8) := match rdHA s with
  | none => .error 4
  | some f => if bigT (msF f) = true then .error 5 else .ok (txO (msF f))
def outH : Except Int Nat → Int
  | .ok x => (x : Int)
  | .error _ => 0
theorem Heads1_c {w : World} {b0 b3 : Nat} {s : List UInt8} (hs : s.length ≤ 4294967295) (B0 : Blk w b0 #[S s] 9) (B3 : Blk w b3 #[.int .i64 0] 3) :
    Calls Tryz.prog 86 #[.pointer (some ⟨b0, 0, none⟩), .pointer (some ⟨b3, 0, none⟩)] w
      (RetP (fun _ w' => Kp (fun i => i = b3) w w' ∧ ∃ x, headR s = .ok x ∧ Blk w' b3 #[.int .i64 (x : Int)] 3) (fun ch w' => ∃ e, ch = trb e ∧ Kp (fun i => i = b3) w w' ∧ headR s = .error e ∧ Kp (fun _ => False) w w')) := by
  refine calls_WP (vs := [_, _]) Tryz.func86 rfl (by kernel_rfl) rfl ?_
  (repeat (first | with_reducible refine W.region ?_ | refine z_d (kk := ?_)))
  refine Ops.callP rfl rfl rfl rfl rfl (readHydra_c hs) (fun va w1 hR => ?_) (fun ch w1 hR => ?_)
  rotate_left
  · obtain ⟨rfl, h1, hb1⟩ := hR
    exact ⟨4, rfl, (kpF hb1).mono (fun _ _ e => e.elim), by unfold headR; rw [h1], kpF hb1⟩
  obtain ⟨f, hf, hM, hb1⟩ := hR
  have hfz := rdHA_sz hf
  have hhz := heF_sz f
  have B31 := B3.kp (kpF hb1) (fun e => e)
  skip
  refine Ops.callS rfl rfl rfl rfl rfl (heads_c _ (Nat.le_refl _) (by omega) hM) ?_
  refine Ops.st rfl rfl rfl rfl rfl rfl rfl B31 (by simp) (fun w4 hu => ?_)
  (repeat (first | with_reducible refine Ops.nil ?_))
  refine W.fendP rfl ⟨((kpF hb1).trans hu.kp).mono (fun _ _ e => by rcases e with e | e; exact e.elim; exact e), heF f, ?_, by simpa using hu.blk⟩
  unfold headR
  rw [hf]
theorem Heads_c {w : World} {s : List UInt8} (hs : s.length ≤ 4294967295) :
    Calls Tryz.prog 43 #[S s] w (Ret fun r w' => r = .tuple #[.int .i64 (outH (headR s)), .int .i64 (outE (headR s))] ∧ Below w.heap.size w w') := by
  refine calls_W (vs := [_]) Tryz.func43 rfl (by kernel_rfl) rfl ?_
  (repeat (first | with_reducible refine W.seq ?_ | with_reducible refine W.region ?_))
  refine Ops.box rfl rfl rfl rfl (fun w1 b0 hM1 => ?_)
  refine Ops.alloc rfl rfl rfl rfl (fun w4 b3 hM4 => ?_)
  have hb14 := Mk.bel hM4
  have hb04 := Below.via (Mk.bel hM1) hb14
  have B0 : Blk w4 b0 #[S s] 9 := Blk.kp (w := w1) (hM1.at_) (kpF hb14) (fun e => e)
  have B3 : Blk w4 b3 #[.int .i64 0] 3 := hM4.at_
  have e3 := hM4.r_eq
  have l3 := B3.lt
  have hw03 := (Mk.bel hM1).size
  (repeat (first | with_reducible refine W.seq ?_ | with_reducible refine Ops.nil ?_ | with_reducible refine W.region ?_ | refine z_p (kk := ?_)))
  refine Ops.call rfl rfl rfl rfl rfl (guard_c (F := 86) (caps := [.pointer (some ⟨b0, 0, none⟩), .pointer (some ⟨b3, 0, none⟩)]) (T := fun i => i = b3) (N := fun _ w' => ∃ x, headR s = .ok x ∧ Blk w' b3 #[.int .i64 (x : Int)] 3) (E' := fun w1 w' e => headR s = .error e ∧ Kp (fun _ => False) w1 w') rfl (fun i h => by omega) (fun w5 hlt hb5 => Heads1_c hs (B0.kp (kpF hb5) (fun e => e)) (B3.kp (kpF hb5) (fun e => e)))) (fun r w' hR => ?_)
  obtain ⟨w5, w6, hlt, hb5, k56, k67, hor⟩ := hR
  have hfin : ∃ x e, x = outH (headR s) ∧ e = outE (headR s) ∧ r = .int .i64 e ∧ Blk w' b3 #[.int .i64 x] 3 := by
    rcases hor with ⟨rfl, x, h1, h2⟩ | ⟨e, rfl, h1, h2⟩
    · exact ⟨x, 0, by rw [h1]; rfl, by rw [h1]; rfl, rfl, h2.kp k67 (fun h => by omega)⟩
    · exact ⟨0, e, by rw [h1]; rfl, by rw [h1]; rfl, rfl, ((B3.kp (kpF hb5) (fun e => e)).kp h2 (fun e => e)).kp k67 (fun h => by omega)⟩
  obtain ⟨x, e, hx, he, rfl, B3'⟩ := hfin
  have hb0' : Below w.heap.size w w' := Below.put (Below.put (Below.via hb04 hb5) k56 (fun i h => by omega)) k67 (fun i h => by omega)
  have hbww : Below w'.heap.size w' w' := Below.refl _ _
  rw [← hx, ← he]
  (repeat (first | with_reducible refine W.seq ?_ | with_reducible refine Ops.nil ?_ | with_reducible refine W.region ?_ | refine z_p (kk := ?_) | refine z_d (kk := ?_)))
  refine Ops.st rfl rfl rfl rfl rfl rfl rfl B3' (by simp) (fun w7 hu => ?_)
  have B7 : Blk w7 b3 #[.int .i64 x] 3 := by simpa using hu.blk
  (repeat (first | with_reducible refine Ops.nil ?_ | refine z_p (kk := ?_)))
  exact W.fretW (vs := [_, _]) ⟨_, _, rfl, ⟨b3, 0, _, 3, rfl, rfl, B7, rfl⟩, _, _, rfl, rfl, rfl⟩ ⟨rfl, Below.put hb0' hu.kp (fun i h => by omega)⟩
theorem Measure1_c {w : World} {b0 b3 : Nat} {s : List UInt8} (hs : s.length ≤ 4294967295) (hT : Tbl w) (B0 : Blk w b0 #[S s] 9) (B3 : Blk w b3 #[S []] 9) :
    Calls Tryz.prog 89 #[.pointer (some ⟨b0, 0, none⟩), .pointer (some ⟨b3, 0, none⟩)] w
      (RetP (fun _ w' => Kp (fun i => i = b3) w w' ∧ ∃ x, measR s = .ok x ∧ Blk w' b3 #[S x] 9) (fun ch w' => ∃ e, ch = trb e ∧ Kp (fun i => i = b3) w w' ∧ measR s = .error e ∧ Kp (fun _ => False) w w')) := by
  refine calls_WP (vs := [_, _]) Tryz.func89 rfl (by kernel_rfl) rfl ?_
  (repeat (first | with_reducible refine W.region ?_ | refine z_d (kk := ?_)))
  refine Ops.callP rfl rfl rfl rfl rfl (readHydra_c hs) (fun va w1 hR => ?_) (fun ch w1 hR => ?_)
  rotate_left
  · obtain ⟨rfl, h1, hb1⟩ := hR
    exact ⟨4, rfl, (kpF hb1).mono (fun _ _ e => e.elim), by unfold measR; rw [h1], kpF hb1⟩
  obtain ⟨f, hf, hM, hb1⟩ := hR
  have hfz := rdHA_sz hf
  have hms := ms_sizes f
  (repeat (first | refine z_ev (EV.mkI rfl rfl rfl rfl) (kk := ?_)))
  refine Ops.callP rfl rfl rfl rfl rfl (rank_c _ (Nat.le_refl _) (by omega) (fun i hi => by have := hb1.size; omega) hM) (fun r w2 hR => ?_) (fun ch w2 hR => ?_)
  rotate_left
  · obtain ⟨rfl, h1, hb2⟩ := hR
    have hb02 := Below.via hb1 hb2
    exact ⟨5, rfl, (kpF hb02).mono (fun _ _ e => e.elim), by unfold measR; rw [hf]; simp only; rw [if_pos h1], kpF hb02⟩
  obtain ⟨hbg, hO, hb2⟩ := hR
  have hb02 := Below.via hb1 hb2
  refine Ops.call rfl rfl rfl rfl rfl (text_c _ (Nat.le_refl _) (by omega) (by omega) (hT.below hb02) hO) (fun vt w4 hR => ?_)
  obtain ⟨rfl, hb4⟩ := hR
  have hb04 := Below.via hb02 hb4
  have B34 := B3.kp (kpF hb04) (fun e => e)
  refine Ops.st rfl rfl rfl rfl rfl rfl rfl B34 (by simp) (fun w5 hu => ?_)
  (repeat (first | with_reducible refine Ops.nil ?_))
  refine W.fendP rfl ⟨((kpF hb04).trans hu.kp).mono (fun _ _ e => by rcases e with e | e; exact e.elim; exact e), txO (msF f), by unfold measR; rw [hf]; simp only; rw [if_neg (by rw [hbg]; simp)], by simpa using hu.blk⟩
theorem Measure_c {w : World} {s : List UInt8} (hs : s.length ≤ 4294967295) (hT : Tbl w) :
    Calls Tryz.prog 44 #[S s] w (Ret fun r w' => r = .tuple #[S (outS (measR s)), .int .i64 (outE (measR s))] ∧ Below w.heap.size w w') := by
  refine calls_W (vs := [_]) Tryz.func44 rfl (by kernel_rfl) rfl ?_
  (repeat (first | with_reducible refine W.seq ?_ | with_reducible refine W.region ?_))
  refine Ops.box rfl rfl rfl rfl (fun w1 b0 hM1 => ?_)
  refine Ops.alloc rfl rfl rfl rfl (fun w4 b3 hM4 => ?_)
  have hb14 := Mk.bel hM4
  have hb04 := Below.via (Mk.bel hM1) hb14
  have B0 : Blk w4 b0 #[S s] 9 := Blk.kp (w := w1) (hM1.at_) (kpF hb14) (fun e => e)
  have B3 : Blk w4 b3 #[S []] 9 := hM4.at_
  have e3 := hM4.r_eq
  have l3 := B3.lt
  have hw03 := (Mk.bel hM1).size
  (repeat (first | with_reducible refine W.seq ?_ | with_reducible refine Ops.nil ?_ | with_reducible refine W.region ?_ | refine z_p (kk := ?_)))
  refine Ops.call rfl rfl rfl rfl rfl (guard_c (F := 89) (caps := [.pointer (some ⟨b0, 0, none⟩), .pointer (some ⟨b3, 0, none⟩)]) (T := fun i => i = b3) (N := fun _ w' => ∃ x, measR s = .ok x ∧ Blk w' b3 #[S x] 9) (E' := fun w1 w' e => measR s = .error e ∧ Kp (fun _ => False) w1 w') rfl (fun i h => by omega) (fun w5 hlt hb5 => Measure1_c hs (hT.below (Below.via hb04 hb5)) (B0.kp (kpF hb5) (fun e => e)) (B3.kp (kpF hb5) (fun e => e)))) (fun r w' hR => ?_)
  obtain ⟨w5, w6, hlt, hb5, k56, k67, hor⟩ := hR
  have hfin : ∃ x e, x = outS (measR s) ∧ e = outE (measR s) ∧ r = .int .i64 e ∧ Blk w' b3 #[S x] 9 := by
    rcases hor with ⟨rfl, x, h1, h2⟩ | ⟨e, rfl, h1, h2⟩
    · exact ⟨x, 0, by rw [h1]; rfl, by rw [h1]; rfl, rfl, h2.kp k67 (fun h => by omega)⟩
    · exact ⟨[], e, by rw [h1]; rfl, by rw [h1]; rfl, rfl, ((B3.kp (kpF hb5) (fun e => e)).kp h2 (fun e => e)).kp k67 (fun h => by omega)⟩
  obtain ⟨x, e, hx, he, rfl, B3'⟩ := hfin
  have hb0' : Below w.heap.size w w' := Below.put (Below.put (Below.via hb04 hb5) k56 (fun i h => by omega)) k67 (fun i h => by omega)
  have hbww : Below w'.heap.size w' w' := Below.refl _ _
  rw [← hx, ← he]
  (repeat (first | with_reducible refine W.seq ?_ | with_reducible refine Ops.nil ?_ | with_reducible refine W.region ?_ | refine z_p (kk := ?_) | refine z_d (kk := ?_)))
  refine Ops.st rfl rfl rfl rfl rfl rfl rfl B3' (by simp) (fun w7 hu => ?_)
  have B7 : Blk w7 b3 #[S x] 9 := by simpa using hu.blk
  (repeat (first | with_reducible refine Ops.nil ?_ | refine z_p (kk := ?_)))
  exact W.fretW (vs := [_, _]) ⟨_, _, rfl, ⟨b3, 0, _, 9, rfl, rfl, B7, rfl⟩, _, _, rfl, rfl, rfl⟩ ⟨rfl, Below.put hb0' hu.kp (fun i h => by omega)⟩
end Go.Proofs.YtcmjlmnfdncajaaGreatDoor
namespace Go.Proofs.YtcmjlmnfdncajaaGreatDoor
open Go Go.RowKit Go.Proofs.YtcmjlmnfdncajaaGreatDoor.VW Go.Proofs.YtcmjlmnfdncajaaGreatDoor.TW
attribute [local irreducible] W Ops OrdA VW.Ord OrdX Wi OpsI OrdF
theorem full_c (e : Int) (w : World) : Calls Tryz.prog 22 #[.int .i64 e] w (Ret fun r w' => r = .bool (decide (e = 5)) ∧ w' = w) := by
  refine calls_W (vs := [_]) Tryz.func22 rfl (by kernel_rfl) rfl ?_
  (repeat (first | with_reducible refine W.seq ?_ | with_reducible refine Ops.nil ?_ | with_reducible refine W.region ?_ | refine z_p (kk := ?_)))
  refine W.fret rfl ⟨?_, rfl⟩
  show Value.bool _ = _
  by_cases h : e = 5 <;> simp [h]
theorem modI_nat {a n : Nat} (h : a < 18446744073709551616) : modI (a : Int) (n : Int) = ((a % n : Nat) : Int) := by
  unfold modI
  rw [show (a : Int) % 18446744073709551616 = (a : Int) by omega]
  exact (Int.natCast_emod a n).symm
theorem modI_ex (x : Int) {n : Int} (h : 0 < n) : ∃ k : Nat, modI x n = (k : Int) ∧ (k : Int) < n := by
  have := modI_bd x h
  exact ⟨(modI x n).toNat, by omega, by omega⟩
theorem bumR_small {x b : Nat} (hb : 2 ≤ b) (hb2 : b ≤ 1000) (hx : x < b) : bumR (x : Int) (b : Int) = .ok (x, numO x) := by
  have h1 : bmp b x = x := bmp_small hb hx
  have h2 : lif b x = numO x := lif_small hb hx
  have h3 : bigT (numO x) = false := by
    unfold numO ptO
    split
    · exact decide_eq_false (by simp only [topO, szO]; omega)
    · rfl
  unfold bumR
  rw [if_pos (by omega), Int.toNat_natCast, Int.toNat_natCast, h1, h2, if_pos ⟨by omega, h3⟩]
theorem cmpR_ok {a b : Od} (ha : rdA (txO a) = some a) (hb : rdA (txO b) = some b) : cmpR (txO a) (txO b) = .ok (cmpO a b) := by
  unfold cmpR
  rw [ha, hb]
theorem txO_le {b m : Nat} (hb : 2 ≤ b) (hb2 : b ≤ 1000) (h : bigT (lif b m) = false) : (txO (lif b m)).length ≤ 4294967295 := by
  have h2 := lif_most hb m m (Nat.le_refl _)
  have h3 := of_decide_eq_false h
  have := txO_len (o := lif b m) (by omega)
  omega
theorem intL_get (l : List Nat) (i : Nat) : (intL l).getD i 0 = ((l.getD i 0 : Nat) : Int) := by
  unfold intL
  simp only [List.getD_eq_getElem?_getD, List.getElem?_map]
  cases l[i]? <;> rfl
theorem txL_get {l : List Od} {i : Nat} (h : i < l.length) : (l.map txO).getD i [] = txO (l.getD i .nil) := by
  simp [List.getD_eq_getElem?_getD, h]
set_option maxHeartbeats 8000000 in
theorem goodLaw_c {w : World} {m steps base : Int} (hT : Tbl w) : Calls Tryz.prog 9 #[.int .i64 m, .int .i64 steps, .int .i64 base] w (Ret fun r w' => r = .bool true ∧ Below w.heap.size w w') := by
  refine calls_W (vs := [_, _, _]) Tryz.func9 rfl (by kernel_rfl) rfl ?_
  obtain ⟨m0, hm, hm1⟩ := modI_ex m (n := 1000001) (by omega)
  obtain ⟨s0, hs, hs1⟩ := modI_ex steps (n := 51) (by omega)
  obtain ⟨c0, hc, hc1⟩ := modI_ex base (n := 999) (by omega)
  (repeat (first | with_reducible refine W.seq ?_ | with_reducible refine Ops.nil ?_ | with_reducible refine W.region ?_ | refine z_p (kk := ?_)))
  refine Ops.callS rfl rfl rfl rfl rfl (mod_c m 1000001 _ (by omega) (by omega)) ?_
  (repeat (first | refine z_p (kk := ?_)))
  refine Ops.callS rfl rfl rfl rfl rfl (mod_c steps 51 _ (by omega) (by omega)) ?_
  (repeat (first | with_reducible refine W.seq ?_ | with_reducible refine Ops.nil ?_ | with_reducible refine W.region ?_ | refine z_p (kk := ?_)))
  refine Ops.callS rfl rfl rfl rfl rfl (mod_c base 999 _ (by omega) (by omega)) ?_
  rw [hm, hs, hc]
  (repeat (first | with_reducible refine W.seq ?_ | with_reducible refine Ops.nil ?_ | with_reducible refine W.region ?_ | refine z_p (kk := ?_) | refine z_a (kk := ?_)))
  rw [show (2 : Int) + (c0 : Int) = ((c0 + 2 : Nat) : Int) by omega]
  generalize hb0 : c0 + 2 = b0 at *
  have hb2 : 2 ≤ b0 := by omega
  have hb3 : b0 ≤ 1000 := by omega
  refine Ops.call rfl rfl rfl rfl rfl (Goodstein_c (m := (m0 : Int)) (steps := (s0 : Int)) hT) (fun r w1 hR => ?_)
  obtain ⟨v1, v2, rfl, hG1, hG2, hne, hb1⟩ := hR
  (repeat (first | with_reducible refine W.seq ?_ | with_reducible refine Ops.nil ?_ | with_reducible refine W.region ?_ | refine z_p (kk := ?_)))
  refine Ops.callS rfl rfl rfl rfl rfl (mod_c _ _ _ (by omega) (by omega)) ?_
  rw [modI_nat (by omega)]
  have hx := Nat.mod_lt m0 (show b0 > 0 by omega)
  have hB := bumR_small hb2 hb3 hx
  have hN : numR ((m0 % b0 : Nat) : Int) = .ok (m0 % b0) := by unfold numR; rw [if_pos (by omega), Int.toNat_natCast]
  generalize hxm : m0 % b0 = x0 at *
  (repeat (first | refine z_p (kk := ?_)))
  refine Ops.call rfl rfl rfl rfl rfl (Bumped_c (hT.below hb1)) (fun r w2 hR => ?_)
  obtain ⟨rfl, hb12⟩ := hR
  have hb02 := Below.via hb1 hb12
  rw [hB, show (outN (.ok (x0, numO x0))).1 = (x0 : Int) from rfl, show (outN (.ok (x0, numO x0))).2 = txO (numO x0) from rfl, show outE (.ok (x0, numO x0) : Except Int (Nat × Od)) = 0 from rfl]
  (repeat (first | with_reducible refine W.seq ?_ | with_reducible refine Ops.nil ?_ | with_reducible refine W.region ?_ | refine z_p (kk := ?_)))
  refine Ops.callS rfl rfl rfl rfl rfl (mod_c _ _ _ (by omega) (by omega)) ?_
  rw [modI_nat (by omega), hxm]
  skip
  refine Ops.call rfl rfl rfl rfl rfl (Number_c (hT.below hb02)) (fun r w3 hR => ?_)
  obtain ⟨rfl, hb23⟩ := hR
  have hb03 := Below.via hb02 hb23
  have hb13 := Below.via hb12 hb23
  rw [hN, show outM (.ok x0) = txO (numO x0) from rfl, show outE (.ok x0 : Except Int Nat) = 0 from rfl]
  (repeat (first | with_reducible refine W.seq ?_ | with_reducible refine Ops.nil ?_ | with_reducible refine W.region ?_ | refine z_p (kk := ?_) | refine z_y (kk := ?_)))
  refine Ops.callS rfl rfl rfl rfl rfl (mod_c _ _ _ (by omega) (by omega)) ?_
  rw [modI_nat (by omega), hxm]
  (repeat (first | with_reducible refine Ops.nil ?_ | refine z_p (kk := ?_) | refine z_y (kk := ?_) | refine z_ev (EV.sne rfl rfl rfl rfl) (kk := ?_) | refine z_h (kk := ?_)))
  refine W.condF rfl (by simp) ?_
  (repeat (first | with_reducible refine W.seq ?_ | with_reducible refine Ops.nil ?_ | with_reducible refine W.region ?_ | refine z_p (kk := ?_) | with_reducible refine W.skip ?_))
  have hgr : goodR (m0 : Int) (s0 : Int) = match goodL s0 2 m0 with
      | none => .error 5
      | some q => .ok q := by
    unfold goodR
    rw [if_pos (by omega), Int.toNat_natCast, Int.toNat_natCast]
    cases goodL s0 2 m0 <;> rfl
  cases hq : goodL s0 2 m0 with
  | none =>
    rw [hq] at hgr
    simp only at hgr
    rw [hgr] at hG1 hG2 ⊢
    obtain ⟨A1, d1, rfl⟩ := hG1.sh
    obtain ⟨A2, d2, rfl⟩ := hG2.sh
    rw [show outE (.error 5 : Except Int (List Nat × List Od)) = 5 from rfl]
    rw [show (intL (outG (.error 5)).1).length = 0 from rfl, show ((outG (.error 5)).2.map txO).length = 0 from rfl]
    skip
    refine W.condT rfl (by first | rfl | assumption | (simp only [bnf] <;> omega) | (simp only [*, bnf]; done) | fail) ?_
    (repeat (first | with_reducible refine W.seq ?_ | with_reducible refine W.region ?_ | refine z_p (kk := ?_)))
    refine Ops.callS rfl rfl rfl rfl rfl (full_c _ _) ?_
    (repeat (first | refine z_p (kk := ?_) | refine z_y (kk := ?_) | refine z_l (kk := ?_)))
    refine Ops.call rfl rfl rfl rfl rfl (awake_c (hT.below hb03)) (fun r w4 hR => ?_)
    obtain ⟨rfl, hb34⟩ := hR
    (repeat (first | with_reducible refine Ops.nil ?_ | refine z_p (kk := ?_)))
    exact W.fret rfl ⟨rfl, Below.via hb03 hb34⟩
  | some q =>
    rw [hq] at hgr
    simp only at hgr
    rw [hgr] at hG1 hG2 ⊢
    rw [show outE (.ok q : Except Int (List Nat × List Od)) = 0 from rfl]
    obtain ⟨ns, os⟩ := q
    have hS := goodL_spec _ _ _ hq
    rw [show (outG (.ok (ns, os))).1 = ns from rfl] at hG1
    rw [show (outG (.ok (ns, os))).2 = os from rfl] at hG2
    have hsl1 : SlI w1 v1 (intL ns) := (hG1.base hb1.size).sl (z := (0 : Int))
    have hsl2 : SlT w1 v2 (os.map txO) := (hG2.base hb1.size).sl (z := ([] : List UInt8))
    have hn1 := Sl.len hsl1
    have hn2 := Sl.len hsl2
    obtain ⟨A1, d1, rfl⟩ := hG1.sh
    obtain ⟨A2, d2, rfl⟩ := hG2.sh
    have q1 := hS.pos
    have q2 := hS.le
    have q3 := hS.lo
    have hil : (intL ns).length = ns.length := by simp [intL]
    have hol : (os.map txO).length = ns.length := by simp [q3]
    have hg0 : (intL ns).getD 0 0 = (m0 : Int) := by
      have := hS.hd
      rw [intL_get, this]
    skip
    refine W.condF rfl (by first | rfl | assumption | (simp only [bnf] <;> omega) | (simp only [*, bnf]; done) | fail) ?_
    (repeat (first | with_reducible refine W.seq ?_ | with_reducible refine W.region ?_ | refine z_p (kk := ?_) | refine z_a (kk := ?_) | refine z_y (kk := ?_) | with_reducible refine W.skip ?_ | refine z_l (kk := ?_) | refine z_K (kk := fun _ => ?_) | refine z_h (kk := ?_)))
    rw [show Int.toNat 0 = 0 from rfl, hg0]
    have hne0 : ((m0 : Int) != (m0 : Int)) = false := by simp
    rw [hne0]
    have hlast : ns.length ≤ s0 → (intL ns).getD (((intL ns).length : Int) - 1).toNat 0 = 0 := fun h => by
      rw [show (((intL ns).length : Int) - 1).toNat = ns.length - 1 by omega, intL_get, hS.fin h]; rfl
    refine Ops.cut (fun ρ w' => ρ = [(7, .slice A1 (intL ns).length d1), (8, .slice A2 (os.map txO).length d2), (124, .bool false)] ∧ w' = w3) ?_ ?_
    · (repeat (first | refine z_p (kk := ?_) | refine z_y (kk := ?_) | refine z_l (kk := ?_)))
      by_cases hle : ns.length ≤ s0
      · have hl0 := hlast hle
        (repeat (first | with_reducible refine Ops.nil ?_ | refine z_p (kk := ?_) | refine z_a (kk := ?_) | refine z_y (kk := ?_) | refine z_l (kk := ?_) | refine z_K (kk := fun _ => ?_) | refine z_h (kk := ?_)))
        rw [hl0]
        skip
        exact W.endl ⟨_, ⟨rfl, rfl⟩, (by repeat (first | exact trivial | refine And.intro rfl ?_))⟩
      · (repeat (first | with_reducible refine Ops.nil ?_ | refine z_p (kk := ?_) | refine z_y (kk := ?_) | refine z_n (kk := ?_) | refine z_g (kk := ?_)))
        exact W.endl ⟨_, ⟨rfl, rfl⟩, (by repeat (first | exact trivial | refine And.intro rfl ?_))⟩
    rintro ρ w3' ⟨rfl, rfl⟩
    clear hlast hne0 hB hN
    skip
    refine W.condF rfl (by first | rfl | assumption | (simp only [bnf] <;> omega) | (simp only [*, bnf]; done) | fail) ?_
    (repeat (first | with_reducible refine W.seq ?_ | with_reducible refine Ops.nil ?_ | with_reducible refine W.region ?_ | refine z_p (kk := ?_) | with_reducible refine W.skip ?_ | with_reducible refine W.block ?_))
    have hb33 : Below w3'.heap.size w3' w3' := Below.refl _ _
    have hsl1' := Sl.below hsl1 hb13
    have hsl2' := Sl.below hsl2 hb13
    refine W.loop (fun k ρ w4 => ∃ i : Nat, k = ns.length - i ∧ i ≤ ns.length ∧ ρ = [(7, .slice A1 (intL ns).length d1), (8, .slice A2 (os.map txO).length d2), (15, .int .i64 i)] ∧ Below w3'.heap.size w3' w4)
      ⟨_, _, ⟨0, rfl, Nat.zero_le _, rfl, hb33⟩, (by repeat (first | exact trivial | refine And.intro rfl ?_))⟩ ?_
    rintro k ρ w4 ⟨i, rfl, hi, rfl, hb34⟩
    have hb44 : Below w4.heap.size w4 w4 := Below.refl _ _
    have hT4 := hT.below (Below.via hb03 hb34)
    (repeat (first | with_reducible refine W.seq ?_ | with_reducible refine Ops.nil ?_ | with_reducible refine W.region ?_ | refine z_p (kk := ?_) | refine z_l (kk := ?_)))
    (first | refine W.condD rfl (fun hc => ?_) (fun hc => ?_) | refine W.condE rfl (fun hc => ?_) (fun hc => ?_) | refine W.condN rfl (fun hc => ?_) (fun hc => ?_) | refine W.cond rfl (fun hc => ?_) (fun hc => ?_))
    · have hin : i < ns.length := by omega
      have ho := hS.od i hin
      have hgi : (intL ns).getD i 0 = ((ns.getD i 0 : Nat) : Int) := intL_get _ _
      have hti : (os.map txO).getD i [] = txO (os.getD i .nil) := txL_get (by omega)
      rw [ho.1] at hti
      generalize hni : ns.getD i 0 = ni at *
      have hrd := rdA_lif (b := 2 + i) (m := ni) (by omega) (by omega) ho.2
      have hln := txO_le (b := 2 + i) (m := ni) (by omega) (by omega) ho.2
      (repeat (first | with_reducible refine W.seq ?_ | with_reducible refine Ops.nil ?_ | with_reducible refine W.region ?_ | refine z_p (kk := ?_) | with_reducible refine W.skip ?_ | with_reducible refine W.block ?_))
      refine W.cut (fun ρ w5 => ρ = [(7, .slice A1 (intL ns).length d1), (8, .slice A2 (os.map txO).length d2), (15, .int .i64 i)] ∧ Below w3'.heap.size w3' w5) ?_ ?_
      · by_cases hi0 : 0 < i
        · have ho1 := hS.od (i - 1) (by omega)
          obtain ⟨n1, n2, n3⟩ := hS.nxt (i - 1) (by omega)
          rw [show i - 1 + 1 = i by omega, hni] at n3
          have hgi1 : (intL ns).getD ((i : Int) - 1).toNat 0 = ((ns.getD (i - 1) 0 : Nat) : Int) := by rw [show ((i : Int) - 1).toNat = i - 1 by omega]; exact intL_get _ _
          have hti1 : (os.map txO).getD ((i : Int) - 1).toNat [] = txO (os.getD (i - 1) .nil) := by rw [show ((i : Int) - 1).toNat = i - 1 by omega]; exact txL_get (by omega)
          rw [ho1.1] at hti1
          generalize hn1i : ns.getD (i - 1) 0 = nj at *
          have hrd1 := rdA_lif (b := 2 + (i - 1)) (m := nj) (by omega) (by omega) ho1.2
          have hln1 := txO_le (b := 2 + (i - 1)) (m := nj) (by omega) (by omega) ho1.2
          have hdn := good_down (b := 2 + (i - 1)) (n := nj) (by omega) n1
          rw [← n3, show 2 + (i - 1) + 1 = 2 + i by omega] at hdn
          have hcr := cmpR_ok hrd hrd1
          rw [hdn] at hcr
          refine W.condT rfl (by first | rfl | assumption | (simp only [bnf] <;> omega) | (simp only [*, bnf]; done) | fail) ?_
          (repeat (first | with_reducible refine W.seq ?_))
          refine W.ordA 99 [(0, 1), (1, 1), (2, 1), (3, 2), (4, 1), (5, 1), (6, 1), (7, 1), (8, 2), (9, 2), (10, 1), (11, 1), (12, 1), (13, 1), (14, 1)] rfl (by kernel_rfl) rfl (by kernel_rfl) (fun _ _ _ h => h) ?_
          (repeat (first | refine x_p (kk := ?_) | refine x_a (kk := ?_) | refine x_TJ (kk := fun _ => ?_) | refine x_TL (kk := fun _ => ?_)))
          rw [hti, hti1]
          refine OrdA.call rfl rfl rfl rfl rfl rfl rfl (fun w' hw' => Calls.via hw' (Compare_c hln hln1)) ?_
          rw [hcr, show outI (.ok (-1) : Except Int Int) = -1 from rfl, show outE (.ok (-1) : Except Int Int) = 0 from rfl]
          (repeat (first | refine x_p (kk := ?_)))
          refine OrdA.nil (fun w5 hb45 => ?_)
          have hb35 := Below.via hb34 hb45
          (repeat (first | with_reducible refine W.seq ?_ | with_reducible refine Ops.nil ?_ | with_reducible refine W.region ?_ | refine z_p (kk := ?_) | refine z_a (kk := ?_) | refine z_y (kk := ?_) | refine z_K (kk := fun _ => ?_)))
          rw [hgi1]
          have hnj : (((nj : Nat) : Int) == 0) = false := by simp; omega
          rw [hnj]
          skip
          refine W.condF rfl (by simp) ?_
          (repeat (first | with_reducible refine W.skip ?_))
          exact W.endl ⟨_, ⟨rfl, hb35⟩, (by repeat (first | exact trivial | refine And.intro rfl ?_))⟩
        · refine W.condF rfl (by first | rfl | assumption | (simp only [bnf] <;> omega) | (simp only [*, bnf]; done) | fail) ?_
          (repeat (first | with_reducible refine W.skip ?_))
          exact W.endl ⟨_, ⟨rfl, hb34⟩, (by repeat (first | exact trivial | refine And.intro rfl ?_))⟩
      · rintro ρ w5 ⟨rfl, hb35⟩
        have hb55 : Below w5.heap.size w5 w5 := Below.refl _ _
        have hT5 := hT.below (Below.via hb03 hb35)
        (repeat (first | with_reducible refine W.seq ?_ | with_reducible refine Ops.nil ?_ | with_reducible refine W.region ?_ | refine z_p (kk := ?_) | refine z_I (kk := fun _ => ?_)))
        rw [hgi]
        by_cases hbig : ni > 1000000
        · refine W.condT rfl (by simp; omega) ?_
          (repeat (first | with_reducible refine Ops.nil ?_ | with_reducible refine W.region ?_ | refine z_p (kk := ?_) | refine z_a (kk := ?_) | refine W.exit rfl ?_))
          exact W.endl ⟨_, _, ⟨⟨i + 1, rfl, by omega, rfl, hb35⟩, by omega⟩, (by repeat (first | exact trivial | refine And.intro rfl ?_))⟩
        · refine W.condF rfl (by simp; omega) ?_
          have hbr : bumR (ni : Int) ((2 + i : Nat) : Int) = if bmp (2 + i) ni ≤ 1152921504606846976 ∧ bigT (lif (2 + i) ni) = false then .ok (bmp (2 + i) ni, lif (2 + i) ni) else .error 5 := by
            unfold bumR
            rw [if_pos (by omega), Int.toNat_natCast, Int.toNat_natCast]
          (repeat (first | with_reducible refine W.seq ?_ | with_reducible refine W.region ?_ | refine z_p (kk := ?_) | refine z_a (kk := ?_) | with_reducible refine W.skip ?_ | refine z_I (kk := fun _ => ?_)))
          rw [hgi, show (2 : Int) + (i : Int) = ((2 + i : Nat) : Int) by omega]
          refine Ops.call rfl rfl rfl rfl rfl (Bumped_c hT5) (fun r w6 hR => ?_)
          obtain ⟨rfl, hb56⟩ := hR
          have hb36 := Below.via hb35 hb56
          rw [hbr]
          have hfin : ∀ ρ, Sub [(7, .slice A1 (intL ns).length d1), (8, .slice A2 (os.map txO).length d2), (15, .int .i64 i)] ρ → True := fun _ _ => trivial
          by_cases hok : bmp (2 + i) ni ≤ 1152921504606846976
          · rw [if_pos ⟨hok, ho.2⟩, show (outN (.ok (bmp (2 + i) ni, lif (2 + i) ni))).1 = (bmp (2 + i) ni : Int) from rfl, show (outN (.ok (bmp (2 + i) ni, lif (2 + i) ni))).2 = txO (lif (2 + i) ni) from rfl, show outE (.ok (bmp (2 + i) ni, lif (2 + i) ni) : Except Int (Nat × Od)) = 0 from rfl]
            (repeat (first | with_reducible refine W.seq ?_ | with_reducible refine Ops.nil ?_ | with_reducible refine W.region ?_ | refine z_p (kk := ?_) | refine z_y (kk := ?_) | refine z_TJ (kk := fun _ => ?_) | refine z_ev (EV.sne rfl rfl rfl rfl) (kk := ?_)))
            have hd : decide (txO (lif (2 + i) ni) = txO (lif (2 + i) ni)) = true := by simp
            rw [hti, hd]
            by_cases hi1 : i + 1 < ns.length
            · obtain ⟨n1, n2, n3⟩ := hS.nxt i hi1
              rw [hni] at n1 n2 n3
              have hle := le_bmp (b := 2 + i) (by omega) ni
              have hgi2 : (intL ns).getD ((i : Int) + 1).toNat 0 = ((bmp (2 + i) ni : Nat) : Int) - 1 := by rw [show ((i : Int) + 1).toNat = i + 1 by omega, intL_get, n3]; omega
              (repeat (first | with_reducible refine Ops.nil ?_ | refine z_p (kk := ?_) | refine z_a (kk := ?_) | refine z_y (kk := ?_) | refine z_n (kk := ?_) | refine z_l (kk := ?_) | refine z_K (kk := fun _ => ?_) | refine z_h (kk := ?_)))
              rw [hgi2]
              have hd2 : (((bmp (2 + i) ni : Nat) : Int) - 1 != ((bmp (2 + i) ni : Nat) : Int) - 1) = false := by simp
              rw [hd2]
              skip
              refine W.condF rfl (by simp) ?_
              (repeat (first | with_reducible refine Ops.nil ?_ | with_reducible refine W.region ?_ | refine z_p (kk := ?_) | refine z_a (kk := ?_) | with_reducible refine W.skip ?_ | with_reducible refine W.endb ?_))
              exact W.endl ⟨_, _, ⟨⟨i + 1, rfl, by omega, rfl, hb36⟩, by omega⟩, (by repeat (first | exact trivial | refine And.intro rfl ?_))⟩
            · (repeat (first | with_reducible refine Ops.nil ?_ | refine z_p (kk := ?_) | refine z_a (kk := ?_) | refine z_y (kk := ?_) | refine z_n (kk := ?_) | refine z_l (kk := ?_) | refine z_g (kk := ?_)))
              refine W.condF rfl (by simp) ?_
              (repeat (first | with_reducible refine Ops.nil ?_ | with_reducible refine W.region ?_ | refine z_p (kk := ?_) | refine z_a (kk := ?_) | with_reducible refine W.skip ?_ | with_reducible refine W.endb ?_))
              exact W.endl ⟨_, _, ⟨⟨i + 1, rfl, by omega, rfl, hb36⟩, by omega⟩, (by repeat (first | exact trivial | refine And.intro rfl ?_))⟩
          · rw [if_neg (fun h => hok h.1), show (outN (.error 5)).1 = 0 from rfl, show (outN (.error 5)).2 = [] from rfl, show outE (.error 5 : Except Int (Nat × Od)) = 5 from rfl]
            by_cases hi1 : i + 1 < ns.length
            · obtain ⟨n1, n2, n3⟩ := hS.nxt i hi1
              rw [hni] at n1 n2 n3
              have hgi2 : (intL ns).getD ((i : Int) + 1).toNat 0 = 1152921504606846976 := by rw [show ((i : Int) + 1).toNat = i + 1 by omega, intL_get, n3]; omega
              (repeat (first | with_reducible refine W.seq ?_ | with_reducible refine Ops.nil ?_ | with_reducible refine W.region ?_ | refine z_p (kk := ?_) | refine z_a (kk := ?_) | refine z_y (kk := ?_) | refine z_n (kk := ?_) | refine z_u (kk := ?_) | refine z_l (kk := ?_) | refine z_K (kk := fun _ => ?_) | refine z_h (kk := ?_)))
              rw [hgi2]
              skip
              refine W.condF rfl (by simp) ?_
              (repeat (first | with_reducible refine Ops.nil ?_ | with_reducible refine W.region ?_ | refine z_p (kk := ?_) | refine z_a (kk := ?_) | with_reducible refine W.skip ?_ | with_reducible refine W.endb ?_))
              exact W.endl ⟨_, _, ⟨⟨i + 1, rfl, by omega, rfl, hb36⟩, by omega⟩, (by repeat (first | exact trivial | refine And.intro rfl ?_))⟩
            · (repeat (first | with_reducible refine W.seq ?_ | with_reducible refine Ops.nil ?_ | with_reducible refine W.region ?_ | refine z_p (kk := ?_) | refine z_a (kk := ?_) | refine z_y (kk := ?_) | refine z_n (kk := ?_) | refine z_u (kk := ?_) | refine z_l (kk := ?_) | refine z_g (kk := ?_)))
              refine W.condF rfl (by simp) ?_
              (repeat (first | with_reducible refine Ops.nil ?_ | with_reducible refine W.region ?_ | refine z_p (kk := ?_) | refine z_a (kk := ?_) | with_reducible refine W.skip ?_ | with_reducible refine W.endb ?_))
              exact W.endl ⟨_, _, ⟨⟨i + 1, rfl, by omega, rfl, hb36⟩, by omega⟩, (by repeat (first | exact trivial | refine And.intro rfl ?_))⟩
    · (repeat (first | with_reducible refine W.seq ?_ | with_reducible refine W.region ?_ | refine W.exit rfl ?_))
      refine Ops.call rfl rfl rfl rfl rfl (awake_c hT4) (fun r w5 hR => ?_)
      obtain ⟨rfl, hb45⟩ := hR
      (repeat (first | with_reducible refine Ops.nil ?_ | refine z_p (kk := ?_)))
      exact W.fret rfl ⟨rfl, Below.via hb03 (Below.via hb34 hb45)⟩
end Go.Proofs.YtcmjlmnfdncajaaGreatDoor
namespace Go.Proofs.YtcmjlmnfdncajaaGreatDoor
open Go Go.RowKit Go.Proofs.YtcmjlmnfdncajaaGreatDoor.VW Go.Proofs.YtcmjlmnfdncajaaGreatDoor.TW
attribute [local irreducible] W Ops OrdA VW.Ord OrdX Wi OpsI OrdF
set_option maxHeartbeats 16000000 in
theorem hydras_c {w : World} {s0 : List UInt8} {head n : Int} (hT : Tbl w) (hl : s0.length ≤ 9223372036854775807) : Calls Tryz.prog 10 #[S s0, .int .i64 head, .int .i64 n] w (Ret fun r w' => r = .bool true ∧ Below w.heap.size w w') := by
  refine calls_W (vs := [_, _, _]) Tryz.func10 rfl (by kernel_rfl) rfl ?_
  (repeat (first | with_reducible refine W.seq ?_ | with_reducible refine Ops.nil ?_ | with_reducible refine W.region ?_ | refine z_p (kk := ?_)))
  refine Ops.callS rfl rfl rfl rfl rfl (short_c (s := s0)) ?_
  have hsl := shS_len s0
  generalize shS s0 = s at *
  (repeat (first | with_reducible refine W.seq ?_ | with_reducible refine Ops.nil ?_ | with_reducible refine W.region ?_ | refine z_p (kk := ?_)))
  refine Ops.call rfl rfl rfl rfl rfl (Heads_c (s := s) (by omega)) (fun r w1 hR => ?_)
  obtain ⟨rfl, hb1⟩ := hR
  (repeat (first | with_reducible refine W.seq ?_ | with_reducible refine Ops.nil ?_ | with_reducible refine W.region ?_ | refine z_p (kk := ?_)))
  refine Ops.call rfl rfl rfl rfl rfl (Measure_c (s := s) (by omega) (hT.below hb1)) (fun r w2 hR => ?_)
  obtain ⟨rfl, hb12⟩ := hR
  have hb02 := Below.via hb1 hb12
  (repeat (first | with_reducible refine W.seq ?_ | with_reducible refine Ops.nil ?_ | with_reducible refine W.region ?_ | refine z_p (kk := ?_)))
  refine Ops.call rfl rfl rfl rfl rfl (Chop_c (s := s) (head := head) (n := n) (by omega)) (fun r w3 hR => ?_)
  obtain ⟨rfl, hb23⟩ := hR
  have hb03 := Below.via hb02 hb23
  (repeat (first | with_reducible refine W.seq ?_ | with_reducible refine Ops.nil ?_ | with_reducible refine W.region ?_ | refine z_p (kk := ?_)))
  refine Ops.callS rfl rfl rfl rfl rfl (rHydra_c (s := s) (by omega)) ?_
  cases hH : isH s with
  | false =>
    have hrd : rdHA s = none := by
      have := isH_rd s
      rw [hH] at this
      cases hx : rdHA s with
      | none => rfl
      | some f => rw [hx] at this; simp at this
    have q1 : headR s = .error 4 := by unfold headR; rw [hrd]
    have q2 : measR s = .error 4 := by unfold measR; rw [hrd]
    have q3 : chopR s head n = .error 4 := by unfold chopR; rw [hrd]
    rw [q1, q2, q3]
    rw [show outH (.error 4) = 0 from rfl, show outE (.error 4 : Except Int Nat) = 4 from rfl, show outS (.error 4) = [] from rfl, show outE (.error 4 : Except Int (List UInt8)) = 4 from rfl]
    (repeat (first | with_reducible refine Ops.nil ?_ | refine z_p (kk := ?_)))
    refine W.condT rfl (by first | rfl | assumption | (simp only [bnf] <;> omega) | (simp only [*, bnf]; done) | fail) ?_
    (repeat (first | with_reducible refine W.seq ?_ | with_reducible refine W.region ?_ | refine z_p (kk := ?_) | refine z_y (kk := ?_) | refine z_ev (EV.seq rfl rfl rfl rfl) (kk := ?_)))
    refine Ops.call rfl rfl rfl rfl rfl (awake_c (hT.below hb03)) (fun r wz hR => ?_)
    obtain ⟨rfl, hbz⟩ := hR
    (repeat (first | with_reducible refine Ops.nil ?_ | refine z_p (kk := ?_)))
    exact W.fret rfl ⟨rfl, Below.via hb03 hbz⟩
  | true =>
    obtain ⟨f, rfl, hf⟩ := (isH_iff s).1 hH
    have hrd := rdHA_tx hf
    have q1 : headR (txH f) = .ok (heF f) := by unfold headR; rw [hrd]
    have q2 : measR (txH f) = if bigT (msF f) = true then .error 5 else .ok (txO (msF f)) := by unfold measR; rw [hrd]
    have q3 : chopR (txH f) head n = if (0 ≤ head ∧ head ≤ (heF f : Int) - 1) ∧ 0 ≤ n ∧ n ≤ 1000 then (if 1 + szF (chF f head.toNat n.toNat).1 ≤ 200 then .ok (txH (chF f head.toNat n.toNat).1) else .error 5) else .error 2 := by unfold chopR; rw [hrd]
    obtain ⟨z1, z2⟩ := ms_sizes f
    have hmo := exM_le (msF f)
    have hbe : bigO (msF f) = bigT (msF f) := big_eq (by omega)
    have g1 : bigO (msF f) = true → outS (measR (txH f)) = [] ∧ outE (measR (txH f)) = 5 := fun h => by
      rw [q2, if_pos (by rw [← hbe]; exact h)]; exact ⟨rfl, rfl⟩
    have g2 : bigO (msF f) = false → outS (measR (txH f)) = txO (msF f) ∧ outE (measR (txH f)) = 0 := fun h => by
      rw [q2, if_neg (by rw [← hbe, h]; simp)]; exact ⟨rfl, rfl⟩
    generalize outS (measR (txH f)) = t10 at *
    generalize outE (measR (txH f)) = e11 at *
    rw [q1, show outH (.ok (heF f)) = ((heF f : Nat) : Int) from rfl, show outE (.ok (heF f) : Except Int Nat) = 0 from rfl]
    (repeat (first | with_reducible refine Ops.nil ?_ | refine z_p (kk := ?_)))
    refine W.condF rfl (by first | rfl | assumption | (simp only [bnf] <;> omega) | (simp only [*, bnf]; done) | fail) ?_
    (repeat (first | with_reducible refine W.seq ?_ | with_reducible refine W.region ?_ | refine z_p (kk := ?_) | with_reducible refine W.skip ?_))
    refine Ops.call rfl rfl rfl rfl rfl (rHeads_c (s := txH f) hsl) (fun v w4 hR => ?_)
    obtain ⟨hL, hb34⟩ := hR
    have hb04 := Below.via hb03 hb34
    have hpair : pairs ((txH f).drop 1) 1 = hpos f 1 := pairs_H f
    rw [hpair] at hL
    obtain ⟨A, c, rfl⟩ := hL.sh
    have hil : (intL (hpos f 1)).length = heF f := by rw [show (intL (hpos f 1)).length = (hpos f 1).length from List.length_map _, hpos_len]
    rw [hil]
    (repeat (first | refine z_p (kk := ?_)))
    refine Ops.call rfl rfl rfl rfl rfl (rMeasure_c (szF f) (i := 0) (k := f) (t := []) (Nat.le_refl _) hsl rfl) (fun v5 w5 hR => ?_)
    obtain ⟨hM5, hb45⟩ := hR
    have hb05 := Below.via hb04 hb45
    have f1 : (((heF f : Nat) : Int) != ((heF f : Nat) : Int)) = false := by simp
    (repeat (first | with_reducible refine W.seq ?_ | with_reducible refine Ops.nil ?_ | with_reducible refine W.region ?_ | refine z_p (kk := ?_) | refine z_y (kk := ?_) | refine z_l (kk := ?_) | refine z_h (kk := ?_)))
    refine Ops.call rfl rfl rfl rfl rfl (rFull_c (by omega) hM5) (fun r w6 hR => ?_)
    obtain ⟨rfl, hb56⟩ := hR
    have hb06 := Below.via hb05 hb56
    (repeat (first | refine z_y (kk := ?_)))
    refine Ops.call rfl rfl rfl rfl rfl (same_c (o := msF f) g1 (fun h => ⟨(g2 h).1, (g2 h).2, hM5.below hb56, by omega, by omega⟩)) (fun r w7 hR => ?_)
    obtain ⟨rfl, hb67⟩ := hR
    have hb07 := Below.via hb06 hb67
    (repeat (first | with_reducible refine Ops.nil ?_ | refine z_p (kk := ?_) | refine z_y (kk := ?_)))
    refine W.condF rfl (by first | rfl | assumption | (simp only [bnf] <;> omega) | (simp only [*, bnf]; done) | fail) ?_
    by_cases hr : (0 ≤ head ∧ head ≤ (heF f : Int) - 1) ∧ 0 ≤ n ∧ n ≤ 1000
    · obtain ⟨h0, rfl⟩ : ∃ h0 : Nat, head = (h0 : Int) := ⟨head.toNat, by omega⟩
      obtain ⟨n0, rfl⟩ : ∃ n0 : Nat, n = (n0 : Int) := ⟨n.toNat, by omega⟩
      rw [if_pos hr, Int.toNat_natCast, Int.toNat_natCast] at q3
      have c1 : decide ((h0 : Int) < 0) = false := decide_eq_false (by omega)
      have c2 : decide ((h0 : Int) ≥ ((heF f : Nat) : Int)) = false := decide_eq_false (by omega)
      have c3 : decide ((n0 : Int) < 0) = false := decide_eq_false (by omega)
      (repeat (first | with_reducible refine W.seq ?_ | with_reducible refine Ops.nil ?_ | with_reducible refine W.region ?_ | refine z_p (kk := ?_) | refine z_y (kk := ?_) | with_reducible refine W.skip ?_ | refine z_l (kk := ?_) | refine z_h (kk := ?_)))
      refine W.condF rfl (by first | (simp; done) | (simp; omega)) ?_
      (repeat (first | with_reducible refine W.seq ?_ | with_reducible refine W.region ?_ | refine z_p (kk := ?_) | with_reducible refine W.skip ?_))
      refine Ops.call rfl rfl rfl rfl rfl (rChop_c (f := f) (h := h0) (n := n0) hf (by omega) (by omega)) (fun r w8 hR => ?_)
      obtain ⟨hor, hb78⟩ := hR
      have hb08 := Below.via hb07 hb78
      unfold refChop at hor
      by_cases hfit : 1 + szF (chF f h0 n0).1 ≤ 200
      · rw [if_pos hfit] at hor q3
        rcases hor with ⟨x, hx, rfl⟩ | ⟨hx, _⟩
        rotate_left
        · cases hx
        simp only [Option.some.injEq] at hx
        subst hx
        rw [q3, show outS (.ok (txH (chF f h0 n0).1)) = txH (chF f h0 n0).1 from rfl, show outE (.ok (txH (chF f h0 n0).1) : Except Int (List UInt8)) = 0 from rfl]
        have hd : decide (txH (chF f h0 n0).1 = txH (chF f h0 n0).1) = true := by simp
        (repeat (first | with_reducible refine W.seq ?_ | with_reducible refine Ops.nil ?_ | with_reducible refine W.region ?_ | refine z_p (kk := ?_)))
        refine W.condF rfl (by first | rfl | assumption | (simp only [bnf] <;> omega) | (simp only [*, bnf]; done) | fail) ?_
        (repeat (first | with_reducible refine W.seq ?_ | with_reducible refine W.region ?_ | refine z_p (kk := ?_) | refine z_y (kk := ?_) | with_reducible refine W.skip ?_ | refine z_ev (EV.seq rfl rfl rfl rfl) (kk := ?_) | refine z_h (kk := ?_)))
        refine Ops.call rfl rfl rfl rfl rfl (awake_c (hT.below hb08)) (fun r wz hR => ?_)
        obtain ⟨rfl, hbz⟩ := hR
        (repeat (first | with_reducible refine Ops.nil ?_ | refine z_p (kk := ?_)))
        exact W.fret rfl ⟨rfl, Below.via hb08 hbz⟩
      · rw [if_neg hfit] at hor q3
        rcases hor with ⟨x, hx, rfl⟩ | ⟨_, vx, rfl⟩
        · cases hx
        rw [q3, show outS (.error 5) = [] from rfl, show outE (.error 5 : Except Int (List UInt8)) = 5 from rfl]
        (repeat (first | with_reducible refine W.seq ?_ | with_reducible refine Ops.nil ?_ | with_reducible refine W.region ?_ | refine z_p (kk := ?_)))
        refine W.condT rfl (by first | rfl | assumption | (simp only [bnf] <;> omega) | (simp only [*, bnf]; done) | fail) ?_
        (repeat (first | with_reducible refine W.seq ?_ | with_reducible refine W.region ?_ | refine z_p (kk := ?_) | refine z_y (kk := ?_) | refine z_ev (EV.seq rfl rfl rfl rfl) (kk := ?_)))
        refine Ops.call rfl rfl rfl rfl rfl (awake_c (hT.below hb08)) (fun r wz hR => ?_)
        obtain ⟨rfl, hbz⟩ := hR
        (repeat (first | with_reducible refine Ops.nil ?_ | refine z_p (kk := ?_)))
        exact W.fret rfl ⟨rfl, Below.via hb08 hbz⟩
    · rw [if_neg hr] at q3
      rw [q3, show outS (.error 2) = [] from rfl, show outE (.error 2 : Except Int (List UInt8)) = 2 from rfl]
      have key : ∀ b1 b2 b3 : Bool, True := fun _ _ _ => trivial
      by_cases c1 : head < 0
      · have d1 : decide (head < 0) = true := decide_eq_true c1
        (repeat (first | with_reducible refine W.seq ?_ | with_reducible refine Ops.nil ?_ | with_reducible refine W.region ?_ | refine z_p (kk := ?_) | refine z_n (kk := ?_) | with_reducible refine W.skip ?_ | refine z_g (kk := ?_)))
        refine W.condT rfl (by first | (simp; done) | (simp; omega)) ?_
        (repeat (first | with_reducible refine W.seq ?_ | with_reducible refine W.region ?_ | refine z_p (kk := ?_) | refine z_y (kk := ?_) | refine z_ev (EV.seq rfl rfl rfl rfl) (kk := ?_)))
        refine Ops.call rfl rfl rfl rfl rfl (awake_c (hT.below hb07)) (fun r wz hR => ?_)
        obtain ⟨rfl, hbz⟩ := hR
        (repeat (first | with_reducible refine Ops.nil ?_ | refine z_p (kk := ?_)))
        exact W.fret rfl ⟨rfl, Below.via hb07 hbz⟩
      have d1 : decide (head < 0) = false := decide_eq_false c1
      by_cases c2 : head ≥ ((heF f : Nat) : Int)
      · have d2 : decide (head ≥ ((heF f : Nat) : Int)) = true := decide_eq_true c2
        (repeat (first | with_reducible refine W.seq ?_ | with_reducible refine Ops.nil ?_ | with_reducible refine W.region ?_ | refine z_p (kk := ?_) | refine z_y (kk := ?_) | refine z_n (kk := ?_) | with_reducible refine W.skip ?_ | refine z_l (kk := ?_) | refine z_g (kk := ?_) | refine z_h (kk := ?_)))
        refine W.condT rfl (by first | (simp; done) | (simp; omega)) ?_
        (repeat (first | with_reducible refine W.seq ?_ | with_reducible refine W.region ?_ | refine z_p (kk := ?_) | refine z_y (kk := ?_) | refine z_ev (EV.seq rfl rfl rfl rfl) (kk := ?_)))
        refine Ops.call rfl rfl rfl rfl rfl (awake_c (hT.below hb07)) (fun r wz hR => ?_)
        obtain ⟨rfl, hbz⟩ := hR
        (repeat (first | with_reducible refine Ops.nil ?_ | refine z_p (kk := ?_)))
        exact W.fret rfl ⟨rfl, Below.via hb07 hbz⟩
      have d2 : decide (head ≥ ((heF f : Nat) : Int)) = false := decide_eq_false c2
      by_cases c3 : n < 0
      · have d3 : decide (n < 0) = true := decide_eq_true c3
        (repeat (first | with_reducible refine W.seq ?_ | with_reducible refine Ops.nil ?_ | with_reducible refine W.region ?_ | refine z_p (kk := ?_) | refine z_y (kk := ?_) | refine z_n (kk := ?_) | with_reducible refine W.skip ?_ | refine z_l (kk := ?_) | refine z_g (kk := ?_) | refine z_h (kk := ?_)))
        refine W.condT rfl (by first | (simp; done) | (simp; omega)) ?_
        (repeat (first | with_reducible refine W.seq ?_ | with_reducible refine W.region ?_ | refine z_p (kk := ?_) | refine z_y (kk := ?_) | refine z_ev (EV.seq rfl rfl rfl rfl) (kk := ?_)))
        refine Ops.call rfl rfl rfl rfl rfl (awake_c (hT.below hb07)) (fun r wz hR => ?_)
        obtain ⟨rfl, hbz⟩ := hR
        (repeat (first | with_reducible refine Ops.nil ?_ | refine z_p (kk := ?_)))
        exact W.fret rfl ⟨rfl, Below.via hb07 hbz⟩
      have d3 : decide (n < 0) = false := decide_eq_false c3
      (repeat (first | with_reducible refine W.seq ?_ | with_reducible refine Ops.nil ?_ | with_reducible refine W.region ?_ | refine z_p (kk := ?_) | refine z_y (kk := ?_) | with_reducible refine W.skip ?_ | refine z_l (kk := ?_) | refine z_h (kk := ?_)))
      refine W.condT rfl (by first | (simp; done) | (simp; omega)) ?_
      (repeat (first | with_reducible refine W.seq ?_ | with_reducible refine W.region ?_ | refine z_p (kk := ?_) | refine z_y (kk := ?_) | refine z_ev (EV.seq rfl rfl rfl rfl) (kk := ?_)))
      refine Ops.call rfl rfl rfl rfl rfl (awake_c (hT.below hb07)) (fun r wz hR => ?_)
      obtain ⟨rfl, hbz⟩ := hR
      (repeat (first | with_reducible refine Ops.nil ?_ | refine z_p (kk := ?_)))
      exact W.fret rfl ⟨rfl, Below.via hb07 hbz⟩
end Go.Proofs.YtcmjlmnfdncajaaGreatDoor
