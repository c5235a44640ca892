/- A part of the walk: what this seat's statements share. -/
import Derived.Test.YtcmjlmnfdncajaaGreatDoorZG5
import Derived.Test.YtcmjlmnfdncajaaGreatDoorZG1
import Derived.Shelf.Strconv.Itoa3
import Derived.Shelf.Strconv.Atoi
import Derived.Shelf.Strings.SlTrimAscii
import Derived.Shelf.Strings.OnBuilder
import Derived.RecoverIn
import Derived.DefersIn
set_option linter.unusedVariables false
set_option linter.unusedSimpArgs false
set_option linter.unusedSectionVars false
namespace Go.Proofs.YtcmjlmnfdncajaaGreatDoor
open Go Go.RowKit Go.Proofs.YtcmjlmnfdncajaaGreatDoor.VW Go.Proofs.YtcmjlmnfdncajaaGreatDoor.TW
attribute [local irreducible] W Ops OrdA VW.Ord OrdX Wi OpsI OrdF
def OA (S : Nat → Prop) (w : World) : Od → List (Value × Nat) → Prop
  | .nil, l => l = []
  | .cons e c r, l => ∃ v l' le, l = (v, c) :: l' ∧ R2 S w v le ∧ OA S w e le ∧ OA S w r l'
/-- A value is an ordinal; no block of S is read. -/
def OM (S : Nat → Prop) (w : World) (v : Value) (o : Od) : Prop := ∃ l, R2 S w v l ∧ OA S w o l
theorem OA.kp {S T : Nat → Prop} {w w' : World} (k : Kp T w w') (hT : ∀ i, T i → S i) : ∀ {o l}, OA S w o l → OA S w' o l
  | .nil, _, h => h
  | .cons e c r, l, ⟨v, l', le, h1, h2, h3, h4⟩ => ⟨v, l', le, h1, h2.kp k hT, OA.kp k hT h3, OA.kp k hT h4⟩
theorem OA.more {S S' : Nat → Prop} {w : World} (hS : ∀ i, S' i → S i ∨ w.heap.size ≤ i) : ∀ {o l}, OA S w o l → OA S' w o l
  | .nil, _, h => h
  | .cons e c r, l, ⟨v, l', le, h1, h2, h3, h4⟩ => ⟨v, l', le, h1, h2.more hS, OA.more hS h3, OA.more hS h4⟩
theorem OM.kp {S T : Nat → Prop} {w w' : World} {v : Value} {o : Od} (h : OM S w v o) (k : Kp T w w') (hT : ∀ i, T i → S i) : OM S w' v o := ⟨_, h.choose_spec.1.kp k hT, h.choose_spec.2.kp k hT⟩
theorem OM.below {S : Nat → Prop} {w w' : World} {v : Value} {o : Od} (h : OM S w v o) (k : Below w.heap.size w w') : OM S w' v o := h.kp (Kp.of_below (S := fun _ => False) k) (fun _ e => e.elim)
theorem OM.more {S S' : Nat → Prop} {w : World} {v : Value} {o : Od} (h : OM S w v o) (hS : ∀ i, S' i → S i ∨ w.heap.size ≤ i) : OM S' w v o := ⟨_, h.choose_spec.1.more hS, h.choose_spec.2.more hS⟩
theorem OM.nil {S : Nat → Prop} {w : World} {A : Option Addr} {c : Nat} : OM S w (.slice A 0 c) .nil := ⟨[], R2.nil, rfl⟩
theorem OM.one {S : Nat → Prop} {w : World} {v : Value} {o : Od} (h : OM S w v o) : v.oneCell' = true := h.choose_spec.1.one
def nthE : Od → Nat → Od
  | .nil, _ => .nil
  | .cons e _ _, 0 => e
  | .cons _ _ r, i + 1 => nthE r i
def nthC : Od → Nat → Nat
  | .nil, _ => 0
  | .cons _ c _, 0 => c
  | .cons _ _ r, i + 1 => nthC r i
def dropO : Od → Nat → Od
  | o, 0 => o
  | .nil, _ + 1 => .nil
  | .cons _ _ r, i + 1 => dropO r i
theorem OA.len {S : Nat → Prop} {w : World} : ∀ {o l}, OA S w o l → l.length = lenO o
  | .nil, l, h => by have : l = [] := h; rw [this]; rfl
  | .cons e c r, l, ⟨v, l', le, h1, h2, h3, h4⟩ => by rw [h1]; simp [lenO, OA.len h4]
theorem OA.at_ {S : Nat → Prop} {w : World} : ∀ {o l} {i : Nat}, OA S w o l → i < lenO o → (l.getD i default).2 = nthC o i ∧ OM S w (l.getD i default).1 (nthE o i)
  | .nil, l, i, _, hi => by simp [lenO] at hi
  | .cons e c r, l, 0, ⟨v, l', le, h1, h2, h3, h4⟩, _ => by rw [h1]; exact ⟨rfl, le, h2, h3⟩
  | .cons e c r, l, i + 1, ⟨v, l', le, h1, h2, h3, h4⟩, hi => by
    have := OA.at_ (i := i) h4 (by simp [lenO] at hi; omega)
    rw [h1]
    exact this
theorem OA.drop {S : Nat → Prop} {w : World} : ∀ {o l} (i : Nat), OA S w o l → OA S w (dropO o i) (l.drop i)
  | o, l, 0, h => by cases o <;> exact h
  | .nil, l, i + 1, h => by have : l = [] := h; rw [this]; rfl
  | .cons e c r, l, i + 1, ⟨v, l', le, h1, h2, h3, h4⟩ => by rw [h1]; exact OA.drop i h4
theorem dropO_zero (o : Od) : dropO o 0 = o := by cases o <;> rfl
theorem dropO_cons : ∀ {o : Od} {i : Nat}, i < lenO o → dropO o i = .cons (nthE o i) (nthC o i) (dropO o (i + 1))
  | .nil, i, h => by simp [lenO] at h
  | .cons e c r, 0, _ => by rw [dropO_zero]; simp [nthE, nthC, dropO, dropO_zero]
  | .cons e c r, i + 1, h => by
    have := dropO_cons (o := r) (i := i) (by simp [lenO] at h; omega)
    exact this
theorem dropO_len : ∀ (o : Od), dropO o (lenO o) = .nil
  | .nil => rfl
  | .cons e c r => dropO_len r
theorem nthE_sz : ∀ {o : Od} {i : Nat}, i < lenO o → szO (nthE o i) < szO o
  | .nil, i, h => by simp [lenO] at h
  | .cons e c r, 0, _ => by simp only [nthE, szO]; omega
  | .cons e c r, i + 1, h => by
    have := nthE_sz (o := r) (i := i) (by simp [lenO] at h; omega)
    simp only [nthE, szO]; omega
theorem cmI_cast (x y : Nat) : cmI (x : Int) (y : Int) = if x < y then -1 else if y < x then 1 else 0 := by
  unfold cmI
  split <;> split <;> (try split) <;> (try split) <;> omega
theorem cmp_step {e e' r r' : Od} {c c' : Nat} : cmpO (.cons e c r) (.cons e' c' r') = if (if cmpO e e' ≠ 0 then cmpO e e' else cmI c c') ≠ 0 then (if cmpO e e' ≠ 0 then cmpO e e' else cmI c c') else cmpO r r' := by
  simp only [cmpO]
  rw [cmI_cast]
  by_cases h : cmpO e e' = 0
  · simp only [h]
    by_cases h1 : c < c'
    · simp [h1]
    · by_cases h2 : c' < c
      · simp [h1, h2]
      · simp [h1, h2]
  · simp [h]
set_option maxHeartbeats 4000000 in
theorem compare_c : ∀ (n : Nat) {S S' : Nat → Prop} {w : World} {va vb : Value} {a b : Od}, szO a ≤ n → OM S w va a → OM S' w vb b →
    Calls Tryz.prog 71 #[va, vb] w (Ret fun r w' => r = .int .i64 (cmpO a b) ∧ Below w.heap.size w w') := by
  intro n
  induction n using Nat.strongRecOn with
  | _ n ih =>
  intro S S' w va vb a b hn hA hB
  obtain ⟨la, hRa, hAa⟩ := hA
  obtain ⟨lb, hRb, hAb⟩ := hB
  have hla := hAa.len
  have hlb := hAb.len
  have hab := hRa.bd
  obtain ⟨Aa, ca, rfl⟩ := hRa.sh
  obtain ⟨Ab, cb, rfl⟩ := hRb.sh
  refine calls_W (vs := [_, _]) Tryz.func71 rfl (by kernel_rfl) rfl ?_
  (repeat (first | with_reducible refine W.seq ?_ | with_reducible refine Ops.nil ?_ | with_reducible refine W.region ?_ | refine z_p (kk := ?_) | with_reducible refine W.block ?_ | refine z_l (kk := ?_)))
  refine W.loop (fun m ρ w' => ∃ (i : Nat), m = la.length - i ∧ i ≤ la.length ∧ i ≤ lb.length ∧ Below w.heap.size w w' ∧ cmpO a b = cmpO (dropO a i) (dropO b i) ∧ ρ = [(0, .slice Aa la.length ca), (1, .slice Ab lb.length cb), (8, .slice Aa la.length ca), (9, .int .i64 la.length), (10, .int .i64 i)])
    ⟨_, _, ⟨0, rfl, by omega, by omega, Below.refl _ _, by rw [dropO_zero, dropO_zero], rfl⟩, (by repeat (first | exact trivial | refine And.intro rfl ?_))⟩ ?_
  rintro m ρ w1 ⟨i, rfl, hi, hib, hb1, hcm, rfl⟩
  (repeat (first | with_reducible refine W.seq ?_ | with_reducible refine Ops.nil ?_ | with_reducible refine W.region ?_ | refine z_p (kk := ?_)))
  (first | refine W.condD rfl (fun hc => ?_) (fun hc => ?_) | refine W.condE rfl (fun hc => ?_) (fun hc => ?_) | refine W.condN rfl (fun hc => ?_) (fun hc => ?_) | refine W.cond rfl (fun hc => ?_) (fun hc => ?_))
  · have hil : i < la.length := by omega
    obtain ⟨a2, aM⟩ := hAa.at_ (i := i) (by omega)
    have ha1 := aM.one
    have aM1 := aM.below hb1
    generalize hva : (la.getD i default).1 = va at *
    generalize hca : (la.getD i default).2 = cc at *
    subst a2
    (repeat (first | with_reducible refine W.seq ?_ | with_reducible refine W.region ?_ | refine z_p (kk := ?_) | with_reducible refine W.skip ?_ | with_reducible refine W.block ?_ | refine z_R2 (kk := fun _ => ?_)))
    rw [hva, hca]
    refine Ops.alloc rfl rfl rfl rfl (fun w2 b2 hM2 => ?_)
    (repeat (first | refine z_p (kk := ?_)))
    refine Ops.stN (vs := [va, .int .i64 (nthC a i : Nat)]) (cs := [.slice none 0 0, .int .i64 0]) rfl rfl rfl rfl rfl rfl (by intro v hv; simp at hv; rcases hv with rfl | rfl; exact ha1; rfl) rfl hM2.at_ (fun w3 hu3 => ?_)
    have B3 : Blk w3 b2 #[va, .int .i64 (nthC a i : Nat)] 119 := hu3.blk
    have e2 := hM2.r_eq
    have hb13 : Below w1.heap.size w1 w3 := Below.put (Mk.bel hM2) hu3.kp (fun k e => by omega)
    have hb03 := Below.via hb1 hb13
    (repeat (first | with_reducible refine W.seq ?_ | with_reducible refine Ops.nil ?_ | with_reducible refine W.region ?_ | refine z_p (kk := ?_) | refine z_l (kk := ?_)))
    by_cases hlt : i = lb.length
    · refine W.condT rfl (by first | rfl | assumption | (simp only [bnf] <;> omega) | (simp only [*, bnf]; done) | fail) ?_
      (repeat (first | with_reducible refine W.seq ?_ | with_reducible refine Ops.nil ?_ | with_reducible refine W.region ?_ | refine z_p (kk := ?_)))
      refine W.fret rfl ⟨?_, hb03⟩
      rw [hcm, dropO_cons (by omega), hlt, hlb, dropO_len]
      rfl
    · refine W.condF rfl (by first | rfl | assumption | (simp only [bnf] <;> omega) | (simp only [*, bnf]; done) | fail) ?_
      (repeat (first | with_reducible refine W.seq ?_ | with_reducible refine W.skip ?_))
      have hil2 : i < lb.length := by omega
      obtain ⟨b2', bM⟩ := hAb.at_ (i := i) (by omega)
      have hsz := nthE_sz (o := a) (i := i) (by omega)
      have hcs := dropO_cons (o := a) (i := i) (by omega)
      have hcs2 := dropO_cons (o := b) (i := i) (by omega)
      rw [hcs, hcs2, cmp_step] at hcm
      generalize hvb : (lb.getD i default).1 = vb at *
      generalize hcb : (lb.getD i default).2 = cc2 at *
      subst b2'
      refine W.ordA 16 [(0, 1), (1, 2), (2, 1), (3, 1), (4, 1), (5, 1), (6, 2), (7, 2), (8, 1), (9, 2), (10, 1), (11, 1), (12, 1), (13, 1), (14, 2), (15, 2), (16, 0), (17, 0), (18, 1)] rfl (by kernel_rfl) rfl (by kernel_rfl) (fun _ _ _ h => h) ?_
      (repeat (first | refine x_p (kk := ?_) | refine x_R0 (kk := fun _ _ => ?_) | refine x_f2 (kk := ?_) | refine x_D (kk := ?_)))
      rw [hvb]
      refine OrdA.call rfl rfl rfl rfl rfl rfl rfl (fun w' hw' => Calls.via hw' (ih _ (show szO (nthE a i) < n by omega) (Nat.le_refl _) (aM1.below (Below.via hb13 hw')) (bM.below (Below.via hb03 hw')))) ?_
      (repeat (first | refine x_p (kk := ?_) | refine x_R1 (kk := fun _ _ => ?_) | refine x_f2 (kk := ?_) | refine x_D (kk := ?_)))
      rw [hcb]
      refine OrdA.call rfl rfl rfl rfl rfl rfl rfl (fun w' hw' => Calls.same hw' (cmp_c _ _ _)) ?_
      generalize cmpO (nthE a i) (nthE b i) = x at *
      generalize cmI (nthC a i) (nthC b i) = y at *
      refine OrdA.eff rfl (fun wr hbr => Ops.bs2 rfl rfl rfl rfl rfl rfl rfl rfl rfl rfl rfl (fun ws rs hMs => Ops.nil (W.endl ?_)))
      have hb0s := Below.via hb03 (Below.via hbr (Mk.bel hMs))
      refine VW.Ord.effT rfl (Ops.callS rfl rfl rfl rfl rfl (or_c (lit2 hMs)) (Ops.nil (W.endl ?_)))
      (repeat (first | refine y_p (kk := ?_)))
      refine VW.Ord.nil ?_
      (repeat (first | with_reducible refine W.seq ?_ | with_reducible refine Ops.nil ?_ | with_reducible refine W.region ?_ | refine z_p (kk := ?_)))
      by_cases hz : (if x ≠ 0 then x else y) = 0
      · rw [hz] at hcm ⊢
        refine W.condF rfl (by first | rfl | assumption | (simp only [bnf] <;> omega) | (simp only [*, bnf]; done) | fail) ?_
        (repeat (first | with_reducible refine Ops.nil ?_ | with_reducible refine W.region ?_ | refine z_p (kk := ?_) | refine z_a (kk := ?_) | with_reducible refine W.skip ?_ | with_reducible refine W.endb ?_))
        exact W.endl ⟨_, _, ⟨⟨i + 1, rfl, by omega, by omega, hb0s, by rw [hcm]; simp, rfl⟩, by omega⟩, (by repeat (first | exact trivial | refine And.intro rfl ?_))⟩
      · rw [if_pos hz] at hcm
        refine W.condT rfl (by first | rfl | assumption | (simp only [bnf] <;> omega) | (simp only [*, bnf]; done) | fail) ?_
        (repeat (first | with_reducible refine W.seq ?_ | with_reducible refine Ops.nil ?_ | with_reducible refine W.region ?_ | refine z_p (kk := ?_)))
        refine W.fret (vs := [_]) rfl ?_
        exact ⟨by rw [hcm]; rfl, hb0s⟩
  · have hil : i = la.length := by omega
    subst hil
    (repeat (first | with_reducible refine W.seq ?_ | with_reducible refine W.region ?_ | refine z_p (kk := ?_) | refine W.exit rfl ?_ | refine z_l (kk := ?_)))
    refine Ops.callS rfl rfl rfl rfl rfl (cmp_c _ _ _) ?_
    (repeat (first | with_reducible refine Ops.nil ?_ | refine z_p (kk := ?_)))
    refine W.fret rfl ⟨?_, hb1⟩
    rw [hcm, hla, dropO_len, cmI_cast]
    by_cases h : lenO a < lenO b
    · rw [dropO_cons h, hlb, if_pos h]; rfl
    · have : lenO a = lenO b := by omega
      rw [this, dropO_len, hlb, if_neg (by omega), if_neg (by omega)]; rfl
end Go.Proofs.YtcmjlmnfdncajaaGreatDoor
/- The library's functions at this program's numbers. (Laid by the kit's shelf tool, printed.) -/
namespace Go.Proofs
open Go.Shelf
def Tryz.lays171_ren : Go.Shelf.Ren := ⟨fun | 171 => 101 | 243 => 121 | 246 => 135 | 283 => 149 | 284 => 150 | 285 => 151 | 286 => 152 | 129 => 165 | 317 => 164 | 318 => 166 | 319 => 167 | 320 => 168 | 337 => 174 | 338 => 175 | n => n, fun | 3 => 3 | 9 => 9 | 2 => 2 | 4 => 4 | 171 => 168 | 0 => 0 | 53 => 157 | 37 => 125 | 5 => 5 | 173 => 171 | 212 => 189 | 51 => 154 | 20 => 20 | 213 => 190 | 46 => 81 | 232 => 210 | 233 => 211 | n => n, fun | 17 => 0 | 18 => 6 | 19 => 7 | n => n⟩
theorem Tryz.lays171 : Go.Proofs.LaysM.n171 Tryz.prog Tryz.lays171_ren := {
  mixed := by kernel_rfl
  f129 := Tryz.func165.trans (congrArg some (by kernel_rfl))
  f171 := Tryz.func101.trans (congrArg some (by kernel_rfl))
  f243 := Tryz.func121.trans (congrArg some (by kernel_rfl))
  f246 := Tryz.func135.trans (congrArg some (by kernel_rfl))
  f283 := Tryz.func149.trans (congrArg some (by kernel_rfl))
  f284 := Tryz.func150.trans (congrArg some (by kernel_rfl))
  f285 := Tryz.func151.trans (congrArg some (by kernel_rfl))
  f286 := Tryz.func152.trans (congrArg some (by kernel_rfl))
  f317 := Tryz.func164.trans (congrArg some (by kernel_rfl))
  f318 := Tryz.func166.trans (congrArg some (by kernel_rfl))
  f319 := Tryz.func167.trans (congrArg some (by kernel_rfl))
  f320 := Tryz.func168.trans (congrArg some (by kernel_rfl))
  f337 := Tryz.func174.trans (congrArg some (by kernel_rfl))
  f338 := Tryz.func175.trans (congrArg some (by kernel_rfl))
  t0 := Tryz.underlying0
  a0 := Tryz.isAgg0
  z0 := Tryz.sizeOf0
  v0 := Tryz.zeroValue0
  t2 := Tryz.underlying2
  a2 := Tryz.isAgg2
  z2 := Tryz.sizeOf2
  v2 := Tryz.zeroValue2
  t3 := Tryz.underlying3
  a3 := Tryz.isAgg3
  z3 := Tryz.sizeOf3
  v3 := Tryz.zeroValue3
  t4 := Tryz.underlying4
  a4 := Tryz.isAgg4
  z4 := Tryz.sizeOf4
  v4 := Tryz.zeroValue4
  t5 := Tryz.underlying5
  a5 := Tryz.isAgg5
  z5 := Tryz.sizeOf5
  v5 := Tryz.zeroValue5
  t9 := Tryz.underlying9
  a9 := Tryz.isAgg9
  z9 := Tryz.sizeOf9
  v9 := Tryz.zeroValue9
  t20 := Tryz.underlying20
  a20 := Tryz.isAgg20
  z20 := Tryz.sizeOf20
  v20 := Tryz.zeroValue20
  t37 := Tryz.underlying125
  a37 := Tryz.isAgg125
  z37 := Tryz.sizeOf125
  v37 := Tryz.zeroValue125
  t46 := Tryz.underlying81
  a46 := Tryz.isAgg81
  z46 := Tryz.sizeOf81
  v46 := Tryz.zeroValue81
  t51 := Tryz.underlying154
  a51 := Tryz.isAgg154
  z51 := Tryz.sizeOf154
  v51 := Tryz.zeroValue154
  t53 := Tryz.underlying157
  a53 := Tryz.isAgg157
  z53 := Tryz.sizeOf157
  v53 := Tryz.zeroValue157
  t171 := Tryz.underlying168
  a171 := Tryz.isAgg168
  z171 := Tryz.sizeOf168
  v171 := Tryz.zeroValue168
  t173 := Tryz.underlying171
  a173 := Tryz.isAgg171
  z173 := Tryz.sizeOf171
  v173 := Tryz.zeroValue171
  t212 := Tryz.underlying189
  a212 := Tryz.isAgg189
  z212 := Tryz.sizeOf189
  v212 := Tryz.zeroValue189
  t213 := Tryz.underlying190
  a213 := Tryz.isAgg190
  z213 := Tryz.sizeOf190
  t232 := Tryz.underlying210
  a232 := Tryz.isAgg210
  z232 := Tryz.sizeOf210
  v232 := Tryz.zeroValue210
  t233 := Tryz.underlying211
  a233 := Tryz.isAgg211
  z233 := Tryz.sizeOf211
  v233 := Tryz.zeroValue211
  g17 := by kernel_rfl
  g18 := by kernel_rfl
  g19 := by kernel_rfl
  i0 := by kernel_rfl
  i2 := by kernel_rfl
  i3 := by kernel_rfl
  i4 := by kernel_rfl
  i5 := by kernel_rfl
  i9 := by kernel_rfl
  i20 := by kernel_rfl
  i37 := by kernel_rfl
  i46 := by kernel_rfl
  i51 := by kernel_rfl
  i53 := by kernel_rfl
  i171 := by kernel_rfl
  i173 := by kernel_rfl
  i212 := by kernel_rfl
  i232 := by kernel_rfl
  i233 := by kernel_rfl
  m17 := by kernel_rfl
  m18 := by kernel_rfl
  m19 := by kernel_rfl }
def Tryz.lays172_ren : Go.Shelf.Ren := ⟨fun | 172 => 134 | 244 => 147 | 245 => 148 | 247 => 159 | 279 => 160 | 280 => 161 | 281 => 162 | 282 => 163 | 287 => 171 | 316 => 172 | 171 => 101 | 205 => 173 | 321 => 180 | 322 => 181 | 243 => 121 | 246 => 135 | 283 => 149 | 284 => 150 | 285 => 151 | 286 => 152 | 129 => 165 | 317 => 164 | 318 => 166 | 319 => 167 | 320 => 168 | 337 => 174 | 338 => 175 | n => n, fun | 9 => 9 | 3 => 3 | 75 => 140 | 76 => 141 | 4 => 4 | 5 => 5 | 167 => 181 | 37 => 125 | 0 => 0 | 85 => 182 | 2 => 2 | 168 => 184 | 53 => 157 | 175 => 193 | 46 => 81 | 210 => 196 | 127 => 153 | 145 => 209 | 143 => 207 | 21 => 21 | 171 => 168 | 173 => 171 | 212 => 189 | 51 => 154 | 20 => 20 | 213 => 190 | 232 => 210 | 233 => 211 | 80 => 90 | n => n, fun | 15 => 2 | 16 => 3 | 17 => 0 | 18 => 6 | 19 => 7 | n => n⟩
theorem Tryz.lays172 : Go.Proofs.Lays.n172 Tryz.prog Tryz.lays172_ren := {
  mixed := by kernel_rfl
  f129 := Tryz.func165.trans (congrArg some (by kernel_rfl))
  f171 := Tryz.func101.trans (congrArg some (by kernel_rfl))
  f172 := Tryz.func134.trans (congrArg some (by kernel_rfl))
  f205 := Tryz.func173.trans (congrArg some (by kernel_rfl))
  f243 := Tryz.func121.trans (congrArg some (by kernel_rfl))
  f244 := Tryz.func147.trans (congrArg some (by kernel_rfl))
  f245 := Tryz.func148.trans (congrArg some (by kernel_rfl))
  f246 := Tryz.func135.trans (congrArg some (by kernel_rfl))
  f247 := Tryz.func159.trans (congrArg some (by kernel_rfl))
  f279 := Tryz.func160.trans (congrArg some (by kernel_rfl))
  f280 := Tryz.func161.trans (congrArg some (by kernel_rfl))
  f281 := Tryz.func162.trans (congrArg some (by kernel_rfl))
  f282 := Tryz.func163.trans (congrArg some (by kernel_rfl))
  f283 := Tryz.func149.trans (congrArg some (by kernel_rfl))
  f284 := Tryz.func150.trans (congrArg some (by kernel_rfl))
  f285 := Tryz.func151.trans (congrArg some (by kernel_rfl))
  f286 := Tryz.func152.trans (congrArg some (by kernel_rfl))
  f287 := Tryz.func171.trans (congrArg some (by kernel_rfl))
  f316 := Tryz.func172.trans (congrArg some (by kernel_rfl))
  f317 := Tryz.func164.trans (congrArg some (by kernel_rfl))
  f318 := Tryz.func166.trans (congrArg some (by kernel_rfl))
  f319 := Tryz.func167.trans (congrArg some (by kernel_rfl))
  f320 := Tryz.func168.trans (congrArg some (by kernel_rfl))
  f321 := Tryz.func180.trans (congrArg some (by kernel_rfl))
  f322 := Tryz.func181.trans (congrArg some (by kernel_rfl))
  f337 := Tryz.func174.trans (congrArg some (by kernel_rfl))
  f338 := Tryz.func175.trans (congrArg some (by kernel_rfl))
  t0 := Tryz.underlying0
  a0 := Tryz.isAgg0
  z0 := Tryz.sizeOf0
  v0 := Tryz.zeroValue0
  t2 := Tryz.underlying2
  a2 := Tryz.isAgg2
  z2 := Tryz.sizeOf2
  v2 := Tryz.zeroValue2
  t3 := Tryz.underlying3
  a3 := Tryz.isAgg3
  z3 := Tryz.sizeOf3
  v3 := Tryz.zeroValue3
  t4 := Tryz.underlying4
  a4 := Tryz.isAgg4
  z4 := Tryz.sizeOf4
  v4 := Tryz.zeroValue4
  t5 := Tryz.underlying5
  a5 := Tryz.isAgg5
  z5 := Tryz.sizeOf5
  v5 := Tryz.zeroValue5
  t9 := Tryz.underlying9
  a9 := Tryz.isAgg9
  z9 := Tryz.sizeOf9
  v9 := Tryz.zeroValue9
  t20 := Tryz.underlying20
  a20 := Tryz.isAgg20
  z20 := Tryz.sizeOf20
  v20 := Tryz.zeroValue20
  t21 := Tryz.underlying21
  a21 := Tryz.isAgg21
  z21 := Tryz.sizeOf21
  v21 := Tryz.zeroValue21
  t37 := Tryz.underlying125
  a37 := Tryz.isAgg125
  z37 := Tryz.sizeOf125
  v37 := Tryz.zeroValue125
  t46 := Tryz.underlying81
  a46 := Tryz.isAgg81
  z46 := Tryz.sizeOf81
  v46 := Tryz.zeroValue81
  t51 := Tryz.underlying154
  a51 := Tryz.isAgg154
  z51 := Tryz.sizeOf154
  v51 := Tryz.zeroValue154
  t53 := Tryz.underlying157
  a53 := Tryz.isAgg157
  z53 := Tryz.sizeOf157
  v53 := Tryz.zeroValue157
  t75 := Tryz.underlying140
  a75 := Tryz.isAgg140
  z75 := Tryz.sizeOf140
  v75 := Tryz.zeroValue140
  t76 := Tryz.underlying141
  a76 := Tryz.isAgg141
  z76 := Tryz.sizeOf141
  v76 := Tryz.zeroValue141
  t85 := Tryz.underlying182
  a85 := Tryz.isAgg182
  z85 := Tryz.sizeOf182
  v85 := Tryz.zeroValue182
  t127 := Tryz.underlying153
  a127 := Tryz.isAgg153
  z127 := Tryz.sizeOf153
  v127 := Tryz.zeroValue153
  t143 := Tryz.underlying207
  a143 := Tryz.isAgg207
  z143 := Tryz.sizeOf207
  v143 := Tryz.zeroValue207
  t145 := Tryz.underlying209
  a145 := Tryz.isAgg209
  z145 := Tryz.sizeOf209
  v145 := Tryz.zeroValue209
  t167 := Tryz.underlying181
  a167 := Tryz.isAgg181
  z167 := Tryz.sizeOf181
  v167 := Tryz.zeroValue181
  t168 := Tryz.underlying184
  a168 := Tryz.isAgg184
  z168 := Tryz.sizeOf184
  v168 := Tryz.zeroValue184
  t171 := Tryz.underlying168
  a171 := Tryz.isAgg168
  z171 := Tryz.sizeOf168
  v171 := Tryz.zeroValue168
  t173 := Tryz.underlying171
  a173 := Tryz.isAgg171
  z173 := Tryz.sizeOf171
  v173 := Tryz.zeroValue171
  t175 := Tryz.underlying193
  a175 := Tryz.isAgg193
  z175 := Tryz.sizeOf193
  v175 := Tryz.zeroValue193
  t210 := Tryz.underlying196
  a210 := Tryz.isAgg196
  z210 := Tryz.sizeOf196
  v210 := Tryz.zeroValue196
  t212 := Tryz.underlying189
  a212 := Tryz.isAgg189
  z212 := Tryz.sizeOf189
  v212 := Tryz.zeroValue189
  t213 := Tryz.underlying190
  a213 := Tryz.isAgg190
  z213 := Tryz.sizeOf190
  t232 := Tryz.underlying210
  a232 := Tryz.isAgg210
  z232 := Tryz.sizeOf210
  v232 := Tryz.zeroValue210
  t233 := Tryz.underlying211
  a233 := Tryz.isAgg211
  z233 := Tryz.sizeOf211
  v233 := Tryz.zeroValue211
  g15 := by kernel_rfl
  g16 := by kernel_rfl
  g17 := by kernel_rfl
  g18 := by kernel_rfl
  g19 := by kernel_rfl }
def Tryz.lays161_ren : Go.Shelf.Ren := ⟨fun | 161 => 133 | 231 => 143 | 227 => 144 | 233 => 145 | 235 => 146 | 228 => 156 | 197 => 157 | 151 => 158 | 260 => 169 | 152 => 170 | 137 => 176 | 119 => 177 | 224 => 178 | 225 => 179 | 217 => 182 | 266 => 183 | n => n, fun | 9 => 9 | 4 => 4 | 3 => 3 | 5 => 5 | 117 => 163 | 116 => 162 | 0 => 0 | 124 => 166 | 105 => 178 | 21 => 21 | 119 => 199 | 46 => 81 | 139 => 202 | 138 => 201 | n => n, fun | 3 => 4 | 4 => 5 | n => n⟩
theorem Tryz.lays161 : Go.Proofs.Lays.n161 Tryz.prog Tryz.lays161_ren := {
  mixed := by kernel_rfl
  f119 := Tryz.func177.trans (congrArg some (by kernel_rfl))
  f137 := Tryz.func176.trans (congrArg some (by kernel_rfl))
  f151 := Tryz.func158.trans (congrArg some (by kernel_rfl))
  f152 := Tryz.func170.trans (congrArg some (by kernel_rfl))
  f161 := Tryz.func133.trans (congrArg some (by kernel_rfl))
  f197 := Tryz.func157.trans (congrArg some (by kernel_rfl))
  f217 := Tryz.func182.trans (congrArg some (by kernel_rfl))
  f224 := Tryz.func178.trans (congrArg some (by kernel_rfl))
  f225 := Tryz.func179.trans (congrArg some (by kernel_rfl))
  f227 := Tryz.func144.trans (congrArg some (by kernel_rfl))
  f228 := Tryz.func156.trans (congrArg some (by kernel_rfl))
  f231 := Tryz.func143.trans (congrArg some (by kernel_rfl))
  f233 := Tryz.func145.trans (congrArg some (by kernel_rfl))
  f235 := Tryz.func146.trans (congrArg some (by kernel_rfl))
  f260 := Tryz.func169.trans (congrArg some (by kernel_rfl))
  f266 := Tryz.func183.trans (congrArg some (by kernel_rfl))
  t0 := Tryz.underlying0
  a0 := Tryz.isAgg0
  z0 := Tryz.sizeOf0
  v0 := Tryz.zeroValue0
  t3 := Tryz.underlying3
  a3 := Tryz.isAgg3
  z3 := Tryz.sizeOf3
  v3 := Tryz.zeroValue3
  t4 := Tryz.underlying4
  a4 := Tryz.isAgg4
  z4 := Tryz.sizeOf4
  v4 := Tryz.zeroValue4
  t5 := Tryz.underlying5
  a5 := Tryz.isAgg5
  z5 := Tryz.sizeOf5
  v5 := Tryz.zeroValue5
  t9 := Tryz.underlying9
  a9 := Tryz.isAgg9
  z9 := Tryz.sizeOf9
  v9 := Tryz.zeroValue9
  t21 := Tryz.underlying21
  a21 := Tryz.isAgg21
  z21 := Tryz.sizeOf21
  v21 := Tryz.zeroValue21
  t46 := Tryz.underlying81
  a46 := Tryz.isAgg81
  z46 := Tryz.sizeOf81
  v46 := Tryz.zeroValue81
  t105 := Tryz.underlying178
  a105 := Tryz.isAgg178
  z105 := Tryz.sizeOf178
  v105 := Tryz.zeroValue178
  t116 := Tryz.underlying162
  a116 := Tryz.isAgg162
  z116 := Tryz.sizeOf162
  t117 := Tryz.underlying163
  a117 := Tryz.isAgg163
  z117 := Tryz.sizeOf163
  v117 := Tryz.zeroValue163
  t119 := Tryz.underlying199
  a119 := Tryz.isAgg199
  z119 := Tryz.sizeOf199
  t124 := Tryz.underlying166
  a124 := Tryz.isAgg166
  z124 := Tryz.sizeOf166
  v124 := Tryz.zeroValue166
  t138 := Tryz.underlying201
  a138 := Tryz.isAgg201
  z138 := Tryz.sizeOf201
  v138 := Tryz.zeroValue201
  t139 := Tryz.underlying202
  a139 := Tryz.isAgg202
  z139 := Tryz.sizeOf202
  v139 := Tryz.zeroValue202
  g3 := by kernel_rfl
  g4 := by kernel_rfl }
def Tryz.lays156_ren : Go.Shelf.Ren := ⟨fun | 156 => 102 | 165 => 122 | 166 => 123 | 169 => 124 | 240 => 136 | 241 => 137 | 276 => 153 | 277 => 154 | n => n, fun | 31 => 24 | 9 => 9 | 3 => 3 | 4 => 4 | 0 => 0 | 20 => 20 | 72 => 137 | 76 => 141 | 70 => 135 | 37 => 125 | 75 => 140 | 127 => 153 | 164 => 173 | 5 => 5 | 80 => 90 | n => n, fun n => n⟩
theorem Tryz.lays156 : Go.Proofs.Lays.n156 Tryz.prog Tryz.lays156_ren := {
  mixed := by kernel_rfl
  f156 := Tryz.func102.trans (congrArg some (by kernel_rfl))
  f165 := Tryz.func122.trans (congrArg some (by kernel_rfl))
  f166 := Tryz.func123.trans (congrArg some (by kernel_rfl))
  f169 := Tryz.func124.trans (congrArg some (by kernel_rfl))
  f240 := Tryz.func136.trans (congrArg some (by kernel_rfl))
  f241 := Tryz.func137.trans (congrArg some (by kernel_rfl))
  f276 := Tryz.func153.trans (congrArg some (by kernel_rfl))
  f277 := Tryz.func154.trans (congrArg some (by kernel_rfl))
  t0 := Tryz.underlying0
  a0 := Tryz.isAgg0
  z0 := Tryz.sizeOf0
  v0 := Tryz.zeroValue0
  t3 := Tryz.underlying3
  a3 := Tryz.isAgg3
  z3 := Tryz.sizeOf3
  v3 := Tryz.zeroValue3
  t4 := Tryz.underlying4
  a4 := Tryz.isAgg4
  z4 := Tryz.sizeOf4
  v4 := Tryz.zeroValue4
  t9 := Tryz.underlying9
  a9 := Tryz.isAgg9
  z9 := Tryz.sizeOf9
  v9 := Tryz.zeroValue9
  t20 := Tryz.underlying20
  a20 := Tryz.isAgg20
  z20 := Tryz.sizeOf20
  v20 := Tryz.zeroValue20
  t31 := Tryz.underlying24
  a31 := Tryz.isAgg24
  z31 := Tryz.sizeOf24
  v31 := Tryz.zeroValue24
  t37 := Tryz.underlying125
  a37 := Tryz.isAgg125
  z37 := Tryz.sizeOf125
  v37 := Tryz.zeroValue125
  t70 := Tryz.underlying135
  a70 := Tryz.isAgg135
  z70 := Tryz.sizeOf135
  v70 := Tryz.zeroValue135
  t72 := Tryz.underlying137
  a72 := Tryz.isAgg137
  z72 := Tryz.sizeOf137
  v72 := Tryz.zeroValue137
  t75 := Tryz.underlying140
  a75 := Tryz.isAgg140
  z75 := Tryz.sizeOf140
  v75 := Tryz.zeroValue140
  t76 := Tryz.underlying141
  a76 := Tryz.isAgg141
  z76 := Tryz.sizeOf141
  v76 := Tryz.zeroValue141
  t127 := Tryz.underlying153
  a127 := Tryz.isAgg153
  z127 := Tryz.sizeOf153
  v127 := Tryz.zeroValue153
  t164 := Tryz.underlying173
  a164 := Tryz.isAgg173
  z164 := Tryz.sizeOf173
  v164 := Tryz.zeroValue173 }
theorem Tryz.extra156 : Builder.Extra Tryz.prog Tryz.lays156_ren := {
  sizeBuilder := by kernel_rfl
  liesBuilder := by kernel_rfl
  t5 := Tryz.underlying5
  a5 := Tryz.isAgg5
  z5 := Tryz.sizeOf5
  v5 := Tryz.zeroValue5
  infoByte := by kernel_rfl
  cellsByte := by kernel_rfl
  sizeByte := by kernel_rfl
  neB5 := by decide }
end Go.Proofs
/- Plain: ordinals as texts: read and written. -/
namespace Go.Proofs.YtcmjlmnfdncajaaGreatDoor.TW
abbrev By := List UInt8
def pre : By → By → Option By
  | [], s => some s
  | _ :: _, [] => none
  | a :: p, b :: s => if a = b then pre p s else none
theorem pre_app : ∀ (p s : By), pre p (p ++ s) = some s
  | [], s => rfl
  | a :: p, s => by simp [pre, pre_app p s]
theorem pre_some : ∀ {p s t : By}, pre p s = some t → s = p ++ t
  | [], s, t, h => by simpa [pre] using h
  | a :: p, [], t, h => by simp [pre] at h
  | a :: p, b :: s, t, h => by
    simp only [pre] at h
    split at h
    · rename_i e; rw [pre_some h, e]; rfl
    · simp at h
def isD (b : UInt8) : Bool := 48 ≤ b && b ≤ 57
def valD (l : By) : Nat := l.foldl (fun n b => 10 * n + (b.toNat - 48)) 0
def rdN (s : By) : Option (Nat × By) :=
  if (1 ≤ (s.takeWhile isD).length ∧ (s.takeWhile isD).length ≤ 4) ∧ s.head? ≠ some 48 ∧ valD (s.takeWhile isD) ≤ 1000 then some (valD (s.takeWhile isD), s.dropWhile isD) else none
def rdE (f : By → Option (Od × By)) : By → Option (Od × By)
  | 48 :: t => some (.nil, t)
  | s => f s
def okL : Option Od → Od → Bool
  | none, _ => true
  | some l, e => decide (cmpO e l < 0)
def sW : By := [119, 94, 40]
def sM : By := [41, 42]
def rdP : Nat → By → Option Od → Option (Od × By)
  | 0, _, _ => none
  | n + 1, s, last =>
    match pre sW s with
    | none => none
    | some s1 => match rdE (fun s => rdP n s none) s1 with
      | none => none
      | some (e, s2) => match pre sM s2 with
        | none => none
        | some s3 => match rdN s3 with
          | none => none
          | some (c, s4) => if okL last e = true then
              match s4 with
              | 43 :: s5 => match rdP n s5 (some e) with
                | none => none
                | some (r, s6) => some (.cons e c r, s6)
              | s4 => some (.cons e c .nil, s4)
            else none
def rdO (s : By) : Option (Od × By) := rdE (fun s => rdP (s.length + 1) s none) s
/-- The ordinal that a string is. -/
def rdA (s : By) : Option Od := match rdO s with
  | some (o, []) => if szO o ≤ 60 then some o else none
  | _ => none
/-- Decimal. -/
def decF : Nat → Nat → By
  | 0, _ => []
  | f + 1, n => if n < 10 then [UInt8.ofNat (48 + n)] else decF f (n / 10) ++ [UInt8.ofNat (48 + n % 10)]
def dec (n : Nat) : By := decF (n + 1) n
def txE : Od → By → By
  | .nil, _ => [48]
  | _, t => t
def txT : Od → By → By
  | .nil, _ => []
  | _, t => 43 :: t
def txP : Od → By
  | .nil => []
  | .cons e c r => sW ++ txE e (txP e) ++ sM ++ dec c ++ txT r (txP r)
def txO (o : Od) : By := txE o (txP o)
/-- What follows a number does not go on with it. -/
def Stop (t : By) : Prop := ∀ b, t.head? = some b → isD b = false ∧ b ≠ 43
theorem takeWhile_app {p : UInt8 → Bool} : ∀ {d t : By}, (∀ b, b ∈ d → p b = true) → (∀ b, t.head? = some b → p b = false) → (d ++ t).takeWhile p = d ∧ (d ++ t).dropWhile p = t
  | [], [], _, _ => by simp
  | [], b :: t, _, h => by simp [h b rfl]
  | a :: d, t, hd, h => by
    have ih := takeWhile_app (p := p) (d := d) (t := t) (fun b hb => hd b (List.mem_cons_of_mem _ hb)) h
    simp [hd a (List.mem_cons_self ..), ih.1, ih.2]
/-- Numbers of at most four digits are read back. -/
structure DecOk (c : Nat) (d : By) : Prop where
  len : 1 ≤ d.length ∧ d.length ≤ 4
  dig : ∀ b, b ∈ d → isD b = true
  hd : d.head? ≠ some 48
  val : valD d = c
theorem dec_ok {c : Nat} (h1 : 1 ≤ c) (h2 : c ≤ 9999) : DecOk c (dec c) := by
  have d1 : ∀ k, k < 10 → (UInt8.ofNat (48 + k)).toNat = 48 + k := fun k hk => by
    rw [UInt8.toNat_ofNat']; omega
  have i1 : ∀ k, k < 10 → isD (UInt8.ofNat (48 + k)) = true := fun k hk => by
    unfold isD
    simp only [Bool.and_eq_true, decide_eq_true_eq, UInt8.le_iff_toNat_le, d1 k hk]
    exact ⟨by show 48 ≤ _; omega, by show _ ≤ 57; omega⟩
  have z1 : ∀ k, k < 10 → 1 ≤ k → UInt8.ofNat (48 + k) ≠ 48 := fun k hk h1 e => by
    have := congrArg UInt8.toNat e
    rw [d1 k hk] at this
    have h48 : (48 : UInt8).toNat = 48 := rfl
    omega
  have step : ∀ m d, DecOk m d → ∀ k, k < 10 → d.length ≤ 3 → DecOk (10 * m + k) (d ++ [UInt8.ofNat (48 + k)]) := fun m d hd k hk hl => by
    refine ⟨by have := hd.len; simp; omega, fun b hb => ?_, ?_, ?_⟩
    · rcases List.mem_append.1 hb with h | h
      · exact hd.dig b h
      · rw [List.mem_singleton.1 h]; exact i1 k hk
    · cases d with
      | nil => have := hd.len; simp at this
      | cons a t => simpa using hd.hd
    · unfold valD
      rw [List.foldl_append]
      have : List.foldl (fun n (b : UInt8) => 10 * n + (b.toNat - 48)) 0 d = m := hd.val
      rw [this]
      simp only [List.foldl_cons, List.foldl_nil, d1 k hk]
      omega
  have one : ∀ k, 1 ≤ k → k < 10 → DecOk k [UInt8.ofNat (48 + k)] := fun k h1 hk => by
    refine ⟨by simp, fun b hb => by rw [List.mem_singleton.1 hb]; exact i1 k hk, by simpa using z1 k hk h1, ?_⟩
    unfold valD
    simp only [List.foldl_cons, List.foldl_nil, d1 k hk]
    omega
  -- by the number of digits
  have all : ∀ f n, 1 ≤ n → (n < 10 → 1 ≤ f) → (n < 100 → 10 ≤ n → 2 ≤ f) → (n < 1000 → 100 ≤ n → 3 ≤ f) → (1000 ≤ n → 4 ≤ f) → n ≤ 9999 → DecOk n (decF f n) ∧ (n < 10 → (decF f n).length ≤ 1) ∧ (n < 100 → (decF f n).length ≤ 2) ∧ (n < 1000 → (decF f n).length ≤ 3) := fun f => by
    induction f with
    | zero => intro n h0 a b c d e; exfalso; omega
    | succ f ih =>
      intro n h0 a b c d e
      simp only [decF]
      by_cases hn : n < 10
      · rw [if_pos hn]
        exact ⟨one n h0 hn, by simp, by simp, by simp⟩
      · rw [if_neg hn]
        obtain ⟨i1', i2, i3, i4⟩ := ih (n / 10) (by omega) (by omega) (by omega) (by omega) (by omega) (by omega)
        have hs := step (n / 10) _ i1' (n % 10) (by omega) (i4 (by omega))
        rw [show 10 * (n / 10) + n % 10 = n by omega] at hs
        refine ⟨hs, fun h => absurd h hn, fun h => ?_, fun h => ?_⟩
        · have := i2 (by omega); simp; omega
        · have := i3 (by omega); simp; omega
  exact (all (c + 1) c h1 (by omega) (by omega) (by omega) (by omega) h2).1
theorem rdN_dec {c : Nat} {t : By} (h1 : 1 ≤ c) (h2 : c ≤ 1000) (ht : ∀ b, t.head? = some b → isD b = false) : rdN (dec c ++ t) = some (c, t) := by
  have hd := dec_ok h1 (by omega)
  obtain ⟨e1, e2⟩ := takeWhile_app hd.dig ht
  unfold rdN
  rw [e1, e2, hd.val, if_pos]
  refine ⟨hd.len, ?_, h2⟩
  have := hd.len
  cases hx : dec c with
  | nil => rw [hx] at this; simp at this
  | cons a d =>
    have := hd.hd
    rw [hx] at this
    simpa using this
/-- Numbers from 1 to 1000 alone. -/
def Small : Od → Prop
  | .nil => True
  | .cons e c r => Small e ∧ (1 ≤ c ∧ c ≤ 1000) ∧ Small r
def okH : Option Od → Od → Prop
  | none, _ => True
  | some l, o => HdLt l o
theorem rdP_tx : ∀ {o : Od} {n : Nat} {last : Option Od} {t : By}, o ≠ .nil → NF o → Small o → okH last o → Stop t → (txP o ++ t).length ≤ n → rdP (n + 1) (txP o ++ t) last = some (o, t)
  | .nil, _, _, _, h, _, _, _, _, _ => absurd rfl h
  | .cons e c r, n, last, t, _, hN, hS, hL, hT, hl => by
    have hWl : sW.length = 3 := rfl
    have e0 : txP (.cons e c r) ++ t = sW ++ (txE e (txP e) ++ (sM ++ (dec c ++ (txT r (txP r) ++ t)))) := by simp [txP]
    rw [e0] at hl ⊢
    simp only [rdP, pre_app]
    have hE : rdE (fun s => rdP n s none) (txE e (txP e) ++ (sM ++ (dec c ++ (txT r (txP r) ++ t)))) = some (e, sM ++ (dec c ++ (txT r (txP r) ++ t))) := by
      cases he : e with
      | nil => rfl
      | cons e1 c1 r1 =>
        have hx : txE (.cons e1 c1 r1) (txP (.cons e1 c1 r1)) = txP (.cons e1 c1 r1) := rfl
        rw [hx]
        have hf : ∀ s, rdE (fun s => rdP n s none) (txP (.cons e1 c1 r1) ++ s) = rdP n (txP (.cons e1 c1 r1) ++ s) none := fun s => by
          simp [txP, sW, rdE]
        rw [hf]
        cases n with
        | zero => simp only [List.length_append, hWl] at hl; omega
        | succ n =>
          subst he
          refine rdP_tx (by simp) hN.1 hS.1 trivial (fun b hb => ?_) ?_
          · simp [sM] at hb
            subst hb
            decide
          · rw [hx] at hl
            simp only [List.length_append] at hl ⊢
            omega
    rw [hE]
    simp only [pre_app]
    have hnext : ∀ b, (txT r (txP r) ++ t).head? = some b → isD b = false := fun b hb => by
      cases r with
      | nil => exact (hT b (by simpa [txT] using hb)).1
      | cons _ _ _ =>
        simp [txT] at hb
        subst hb
        decide
    rw [rdN_dec hS.2.1.1 hS.2.1.2 hnext]
    have hok : okL last e = true := by
      cases last with
      | none => rfl
      | some l =>
        have : cmpO e l = -1 := hL
        simp [okL, this]
    simp only [hok, if_true]
    cases r with
    | nil =>
      simp only [txT, List.nil_append]
      cases t with
      | nil => rfl
      | cons b t =>
        have := (hT b rfl).2
        split
        · rename_i h; simp at h; exact absurd h.1 this
        · rfl
    | cons e2 c2 r2 =>
      have hx : txT (.cons e2 c2 r2) (txP (.cons e2 c2 r2)) ++ t = 43 :: (txP (.cons e2 c2 r2) ++ t) := rfl
      rw [hx] at hl ⊢
      simp only
      cases n with
      | zero => simp only [List.length_append, hWl] at hl; omega
      | succ n =>
        rw [rdP_tx (n := n) (last := some e) (by simp) hN.2.2.1 hS.2.2 hN.2.2.2 hT (by simp only [List.length_append, List.length_cons, hWl] at hl ⊢; omega)]
theorem rdO_tx {o : Od} {t : By} (hN : NF o) (hS : Small o) (hT : Stop t) : rdO (txO o ++ t) = some (o, t) := by
  unfold rdO txO
  cases o with
  | nil => rfl
  | cons e c r =>
    have hx : txE (.cons e c r) (txP (.cons e c r)) = txP (.cons e c r) := rfl
    rw [hx]
    have hf : ∀ (f : By → Option (Od × By)) s, rdE f (txP (.cons e c r) ++ s) = f (txP (.cons e c r) ++ s) := fun f s => by simp [txP, sW, rdE]
    rw [hf]
    exact rdP_tx (by simp) hN hS trivial hT (Nat.le_refl _)
theorem rdA_tx {o : Od} (hN : NF o) (hS : Small o) (hz : szO o ≤ 60) : rdA (txO o) = some o := by
  unfold rdA
  have := rdO_tx (t := []) hN hS (fun b hb => by simp at hb)
  rw [List.append_nil] at this
  rw [this]
  simp [hz]
end Go.Proofs.YtcmjlmnfdncajaaGreatDoor.TW
namespace Go.Proofs.YtcmjlmnfdncajaaGreatDoor
open Go Go.RowKit Go.Proofs.YtcmjlmnfdncajaaGreatDoor.VW Go.Proofs.YtcmjlmnfdncajaaGreatDoor.TW
attribute [local irreducible] W Ops OrdA VW.Ord OrdX Wi OpsI OrdF
/-- The library's table of powers of ten lies as it was laid. -/
def Tbl (w : World) : Prop := Lib.TabIs Tryz.prog w "internal/strconv.uint64pow10" .u64 Lib.pow10Tab
theorem Tbl.kp {S : Nat → Prop} {w w' : World} (h : Tbl w) (k : Kp S w w') (hS : ∀ i, S i → ∀ g, Tryz.prog.globalNamed "internal/strconv.uint64pow10" = some g → i ≠ g) : Tbl w' := by
  unfold Tbl Lib.TabIs World.var? at *
  cases hg : Tryz.prog.globalNamed "internal/strconv.uint64pow10" with
  | none => rw [hg] at h; simp at h
  | some g =>
    rw [hg] at h
    simp only [Option.bind_some] at h ⊢
    have hlt : g < w.heap.size := by
      apply Classical.byContradiction
      intro hn
      rw [Array.getElem?_eq_none (by omega)] at h
      simp at h
    rw [k.blk g hlt (fun e => hS g e g hg rfl)]
    exact h
theorem Tbl.below {w w' : World} (h : Tbl w) (k : Below w.heap.size w w') : Tbl w' := h.kp (Kp.of_below (S := fun _ => False) k) (fun _ e => e.elim)
theorem below_grow (w : World) (k : Nat) (os : Array Obj) : Below w.heap.size w (Go.Sort.grow (w.drewN k) os) := by
  refine Kp.below (S := fun _ => False) ⟨rfl, rfl, rfl, by simp [Go.Sort.grow, World.drewN], fun i hi _ => ?_⟩ (Nat.le_refl _) (fun _ _ e => e)
  show (w.heap ++ os)[i]? = w.heap[i]?
  rw [Array.getElem?_append_left hi]
theorem decF_eq : ∀ (f n : Nat), n < f → decF f n = Lib.decDigits n
  | 0, n, h => by omega
  | f + 1, n, h => by
    rw [decF, Lib.decDigits]
    by_cases h10 : n < 10
    · rw [if_pos h10, dif_pos h10]
    · rw [if_neg h10, dif_neg h10, decF_eq f (n / 10) (by omega)]
theorem dec_eq (n : Nat) : dec n = Lib.decDigits n := decF_eq (n + 1) n (by omega)
theorem itoa_c {w : World} (hT : Tbl w) {n : Nat} (hn : n ≤ 9223372036854775807) : Calls Tryz.prog 101 #[.int .i64 (n : Int)] w (Ret fun r w' => r = S (dec n) ∧ Below w.heap.size w w') := by
  refine (Any.strconv_Itoa Tryz.lays171 (n : Int) (by omega) (by omega) w hT).mono fun e w' ⟨he, k, os, hw⟩ => ⟨_, he, ?_, by rw [hw]; exact below_grow w k os⟩
  rw [dec_eq]
  unfold Lib.itoa
  rw [if_neg (by omega)]
  simp
theorem join_c {w w0 : World} {v : Value} {xs : List (List UInt8)} {sep : List UInt8} (hO : OI 9 S w0 w v xs) (hp : 0 < xs.length) (hN : xs.length ≤ 140737488355328) (hl : (Lib.join xs sep).length ≤ 140737488355328) :
    Calls Tryz.prog 102 #[v, S sep] w (Ret fun r w' => r = S (Lib.join xs sep) ∧ Below w.heap.size w w') := by
  have hsl := hO.sl (z := ([] : List UInt8))
  rcases hO.own.2 with ⟨h2, h3⟩ | ⟨g, cap, cur, h2, h3, h4, h5, _⟩
  · omega
  · subst h2
    obtain ⟨hm, A, c, he, hc⟩ := hsl
    obtain ⟨a, rfl, hc2⟩ := hc hp
    simp only [Value.slice.injEq, Option.some.injEq, true_and] at he
    obtain ⟨rfl, rfl⟩ := he
    have hmap : (xs.map fun x => (⟨x.toArray⟩ : ByteArray)).map (·.data.toList) = xs := by
      rw [List.map_map]
      exact (List.map_congr_left (fun x _ => by simp)).trans (List.map_id xs)
    have key := Any.strings_Join Tryz.lays156 Tryz.extra156 g 0 cap (xs.map fun x => (⟨x.toArray⟩ : ByteArray)) ⟨sep.toArray⟩ w (fun j x hj => by
      rw [List.getElem?_map] at hj
      cases hx : xs[j]? with
      | none => rw [hx] at hj; simp at hj
      | some u =>
        rw [hx] at hj
        simp at hj
        subst hj
        have hjl : j < xs.length := (List.getElem?_eq_some_iff.1 hx).1
        have := hc2 j hjl
        rw [add_lit] at this
        rw [this]
        simp [List.getD_eq_getElem?_getD, hx]) (hO.own.lt g rfl).2 (by simpa using hN) (by have := own_cap hO.own; simpa using this) (by rw [hmap]; simpa using hl)
    rw [List.length_map, hmap] at key
    exact key.mono fun e w' ⟨he, hb⟩ => ⟨_, he, by simp, hb⟩
set_option maxHeartbeats 4000000 in
theorem size_c : ∀ (n : Nat) {S : Nat → Prop} {w : World} {v : Value} {o : Od}, szO o ≤ n → n ≤ 1000000000000 → OM S w v o →
    Calls Tryz.prog 105 #[v] w (Ret fun r w' => r = .int .i64 (szO o : Nat) ∧ Below w.heap.size w w') := by
  intro n
  induction n using Nat.strongRecOn with
  | _ n ih =>
  intro S w v o hn hbig hM
  obtain ⟨l, hR, hA⟩ := hM
  have hl := hA.len
  have hbd := hR.bd
  obtain ⟨A, c, rfl⟩ := hR.sh
  refine calls_W (vs := [_]) Tryz.func105 rfl (by kernel_rfl) rfl ?_
  (repeat (first | with_reducible refine W.seq ?_ | with_reducible refine Ops.nil ?_ | with_reducible refine W.region ?_ | refine z_p (kk := ?_) | with_reducible refine W.block ?_ | refine z_l (kk := ?_)))
  refine W.loop (fun m ρ w' => ∃ (i acc : Nat), m = l.length - i ∧ i ≤ l.length ∧ Below w.heap.size w w' ∧ szO o = acc + szO (dropO o i) ∧ ρ = [(3, .int .i64 (acc : Int)), (6, .slice A l.length c), (7, .int .i64 l.length), (8, .int .i64 i)])
    ⟨_, _, ⟨0, 0, rfl, Nat.zero_le _, Below.refl _ _, by rw [dropO_zero]; omega, rfl⟩, (by repeat (first | exact trivial | refine And.intro rfl ?_))⟩ ?_
  rintro m ρ w1 ⟨i, acc, rfl, hi, hb1, hacc, rfl⟩
  (repeat (first | with_reducible refine W.seq ?_ | with_reducible refine Ops.nil ?_ | with_reducible refine W.region ?_ | refine z_p (kk := ?_)))
  (first | refine W.condD rfl (fun hc => ?_) (fun hc => ?_) | refine W.condE rfl (fun hc => ?_) (fun hc => ?_) | refine W.condN rfl (fun hc => ?_) (fun hc => ?_) | refine W.cond rfl (fun hc => ?_) (fun hc => ?_))
  · have hil : i < l.length := by omega
    obtain ⟨a2, aM⟩ := hA.at_ (i := i) (by omega)
    have ha1 := aM.one
    have aM1 := aM.below hb1
    have hsz := nthE_sz (o := o) (i := i) (by omega)
    rw [dropO_cons (by omega), szO] at hacc
    generalize hva : (l.getD i default).1 = va at *
    generalize hca : (l.getD i default).2 = cc at *
    subst a2
    (repeat (first | with_reducible refine W.seq ?_ | with_reducible refine W.region ?_ | with_reducible refine W.skip ?_ | with_reducible refine W.block ?_ | refine z_R2 (kk := fun _ => ?_)))
    rw [hva, hca]
    refine Ops.alloc rfl rfl rfl rfl (fun w2 b2 hM2 => ?_)
    skip
    refine Ops.stN (vs := [va, .int .i64 (nthC o i : Nat)]) (cs := [.slice none 0 0, .int .i64 0]) rfl rfl rfl rfl rfl rfl (by intro v hv; simp at hv; rcases hv with rfl | rfl; exact ha1; rfl) rfl hM2.at_ (fun w3 hu3 => ?_)
    have B3 : Blk w3 b2 #[va, .int .i64 (nthC o i : Nat)] 119 := hu3.blk
    have e2 := hM2.r_eq
    have hb13 : Below w1.heap.size w1 w3 := Below.put (Mk.bel hM2) hu3.kp (fun k e => by omega)
    (repeat (first | with_reducible refine Ops.nil ?_ | with_reducible refine W.region ?_ | refine z_p (kk := ?_) | refine z_f (kk := ?_) | refine z_d (kk := ?_)))
    refine Ops.call rfl rfl rfl rfl rfl (ih _ (show szO (nthE o i) < n by omega) (Nat.le_refl _) (by omega) (aM1.below hb13)) (fun r w4 hR4 => ?_)
    obtain ⟨rfl, hb4⟩ := hR4
    (repeat (first | with_reducible refine Ops.nil ?_ | with_reducible refine W.region ?_ | refine z_p (kk := ?_) | refine z_a (kk := ?_) | with_reducible refine W.endb ?_))
    exact W.endl ⟨_, _, ⟨⟨i + 1, acc + (1 + szO (nthE o i)), rfl, by omega, Below.via hb1 (Below.via hb13 hb4), by omega, rfl⟩, by omega⟩, (by repeat (first | exact trivial | refine And.intro rfl ?_))⟩
  · have hil : i = l.length := by omega
    subst hil
    rw [hl, dropO_len] at hacc
    (repeat (first | with_reducible refine W.seq ?_ | with_reducible refine Ops.nil ?_ | with_reducible refine W.region ?_ | refine z_p (kk := ?_) | refine W.exit rfl ?_))
    refine W.fret rfl ⟨?_, hb1⟩
    rw [hacc]; rfl
theorem kind_len : ∀ (o : Od), kindO o = if lenO o = 0 then 0 else if lenO (nthE o (lenO o - 1)) = 0 then 1 else 2
  | .nil => rfl
  | .cons .nil c .nil => rfl
  | .cons (.cons _ _ _) c .nil => by simp [kindO, lenO, nthE]
  | .cons e c (.cons e' c' r') => by
    have e1 : nthE (.cons e c (.cons e' c' r')) (lenO (.cons e c (.cons e' c' r')) - 1) = nthE (.cons e' c' r') (lenO (.cons e' c' r') - 1) := by simp [lenO, nthE]
    have h1 : ¬ lenO (.cons e' c' r') = 0 := by simp [lenO]
    have h2 : ¬ lenO (.cons e c (.cons e' c' r')) = 0 := by simp [lenO]
    rw [kindO, kind_len (.cons e' c' r'), e1, if_neg h1, if_neg h2]
theorem kind_c {S : Nat → Prop} {w : World} {v : Value} {o : Od} (hM : OM S w v o) : Calls Tryz.prog 75 #[v] w (Ret fun r w' => r = .int .i64 (kindO o : Nat) ∧ w' = w) := by
  obtain ⟨l, hR, hA⟩ := hM
  have hl := hA.len
  have hbd := hR.bd
  obtain ⟨A, c, rfl⟩ := hR.sh
  have hk := kind_len o
  refine calls_W (vs := [_]) Tryz.func75 rfl (by kernel_rfl) rfl ?_
  (repeat (first | with_reducible refine W.seq ?_ | with_reducible refine Ops.nil ?_ | with_reducible refine W.region ?_ | refine z_p (kk := ?_) | with_reducible refine W.block ?_ | refine z_l (kk := ?_)))
  by_cases h0 : l.length = 0
  · refine W.condT rfl (by first | rfl | assumption | (simp only [bnf] <;> omega) | (simp only [*, bnf]; done) | fail) ?_
    (repeat (first | with_reducible refine W.seq ?_ | with_reducible refine Ops.nil ?_ | with_reducible refine W.region ?_ | refine z_p (kk := ?_)))
    refine W.fret rfl ⟨?_, rfl⟩
    rw [hk, if_pos (by omega)]; rfl
  · rw [if_neg (by omega)] at hk
    refine W.condF rfl (by first | rfl | assumption | (simp only [bnf] <;> omega) | (simp only [*, bnf]; done) | fail) ?_
    (repeat (first | with_reducible refine W.seq ?_ | with_reducible refine W.region ?_ | refine z_p (kk := ?_) | refine z_a (kk := ?_) | refine z_l (kk := ?_)))
    obtain ⟨a2, aM⟩ := hA.at_ (i := lenO o - 1) (by omega)
    rw [show ((l.length : Nat) : Int) - 1 = ((lenO o - 1 : Nat) : Int) by omega]
    (repeat (first | refine z_R0 (kk := fun _ _ => ?_)))
    obtain ⟨le, hRe, hAe⟩ := aM
    have hle := hAe.len
    obtain ⟨Ae, ce, hve⟩ := hRe.sh
    rw [hve]
    (repeat (first | with_reducible refine Ops.nil ?_ | refine z_p (kk := ?_) | refine z_l (kk := ?_)))
    by_cases h1 : le.length = 0
    · refine W.condT rfl (by first | rfl | assumption | (simp only [bnf] <;> omega) | (simp only [*, bnf]; done) | fail) ?_
      (repeat (first | with_reducible refine W.seq ?_ | with_reducible refine Ops.nil ?_ | with_reducible refine W.region ?_ | refine z_p (kk := ?_)))
      refine W.fret rfl ⟨?_, rfl⟩
      rw [hk, if_pos (by omega)]; rfl
    · refine W.condF rfl (by first | rfl | assumption | (simp only [bnf] <;> omega) | (simp only [*, bnf]; done) | fail) ?_
      (repeat (first | with_reducible refine W.seq ?_ | with_reducible refine Ops.nil ?_ | with_reducible refine W.region ?_ | refine z_p (kk := ?_) | with_reducible refine W.skip ?_ | with_reducible refine W.endb ?_))
      refine W.fret rfl ⟨?_, rfl⟩
      rw [hk, if_neg (by omega)]; rfl
def partT (e : Od) (c : Nat) : List UInt8 := sW ++ txE e (txP e) ++ sM ++ dec c
def partsT : Od → List (List UInt8)
  | .nil => []
  | .cons e c r => partT e c :: partsT r
theorem partsT_len : ∀ o, (partsT o).length = lenO o
  | .nil => rfl
  | .cons e c r => by simp [partsT, lenO, partsT_len r]
theorem partsT_at : ∀ {o : Od} {i : Nat}, i < lenO o → (partsT o).take (i + 1) = (partsT o).take i ++ [partT (nthE o i) (nthC o i)]
  | .nil, i, h => by simp [lenO] at h
  | .cons e c r, 0, _ => by simp [partsT, nthE, nthC]
  | .cons e c r, i + 1, h => by
    have := partsT_at (o := r) (i := i) (by simp [lenO] at h; omega)
    simp only [partsT, List.take_succ_cons, this, nthE, nthC, List.cons_append]
theorem join_parts : ∀ (o : Od), o ≠ .nil → Lib.join (partsT o) [43] = txP o
  | .nil, h => absurd rfl h
  | .cons e c .nil, _ => by simp [partsT, Lib.join_one, partT, txP, txT]
  | .cons e c (.cons e' c' r'), _ => by
    have ih := join_parts (.cons e' c' r') (by simp)
    rw [partsT, Lib.join_cons] at ih ⊢
    rw [txP, ← ih]
    simp [partsT, Lib.joinTail, partT, txT]
theorem dec_len {c : Nat} (h : c ≤ 9999) : (dec c).length ≤ 4 := by
  by_cases h0 : 1 ≤ c
  · exact (dec_ok h0 h).len.2
  · have : c = 0 := by omega
    subst this
    decide
theorem txP_len : ∀ (o : Od), mostO o ≤ 9999 → (txP o).length ≤ 11 * szO o
  | .nil, _ => by simp [txP]
  | .cons e c r, h => by
    have h1 := txP_len e (by simp only [mostO] at h; omega)
    have h2 := txP_len r (by simp only [mostO] at h; omega)
    have h3 := dec_len (c := c) (by simp only [mostO] at h; omega)
    have h4 : (txE e (txP e)).length ≤ (txP e).length + 1 := by cases e <;> simp [txE, txP]
    have h5 : (txT r (txP r)).length ≤ (txP r).length + 1 := by cases r <;> simp [txT, txP]
    simp only [txP, List.length_append, szO]
    have e1 : sW.length = 3 := rfl
    have e2 : sM.length = 2 := rfl
    omega
theorem txO_len {o : Od} (h : mostO o ≤ 9999) : (txO o).length ≤ 11 * szO o + 1 := by
  have := txP_len o h
  unfold txO
  cases o <;> simp only [txE] <;> first | (simp; done) | omega
theorem nth_most : ∀ {o : Od} {i : Nat}, i < lenO o → mostO (nthE o i) ≤ mostO o ∧ nthC o i ≤ mostO o
  | .nil, i, h => by simp [lenO] at h
  | .cons e c r, 0, _ => by simp only [nthE, nthC, mostO]; omega
  | .cons e c r, i + 1, h => by
    have := nth_most (o := r) (i := i) (by simp [lenO] at h; omega)
    simp only [nthE, nthC, mostO]; omega
theorem len_le_sz : ∀ o : Od, lenO o ≤ szO o
  | .nil => Nat.le_refl _
  | .cons e c r => by have := len_le_sz r; simp only [lenO, szO]; omega
set_option maxHeartbeats 4000000 in
theorem text_c : ∀ (n : Nat) {S' : Nat → Prop} {w : World} {v : Value} {o : Od}, szO o ≤ n → n ≤ 1000000000 → mostO o ≤ 9999 → Tbl w → OM S' w v o →
    Calls Tryz.prog 65 #[v] w (Ret fun r w' => r = S (txO o) ∧ Below w.heap.size w w') := by
  intro n
  induction n using Nat.strongRecOn with
  | _ n ih =>
  intro S' w v o hn hbig hmost hT hM
  obtain ⟨l, hR, hA⟩ := hM
  have hl := hA.len
  have hls := len_le_sz o
  have hbd := hR.bd
  obtain ⟨A, c, rfl⟩ := hR.sh
  refine calls_W (vs := [_]) Tryz.func65 rfl (by kernel_rfl) rfl ?_
  (repeat (first | with_reducible refine W.seq ?_ | with_reducible refine Ops.nil ?_ | with_reducible refine W.region ?_ | refine z_p (kk := ?_) | refine z_l (kk := ?_)))
  by_cases h0 : l.length = 0
  · refine W.condT rfl (by first | rfl | assumption | (simp only [bnf] <;> omega) | (simp only [*, bnf]; done) | fail) ?_
    (repeat (first | with_reducible refine W.seq ?_ | with_reducible refine Ops.nil ?_ | with_reducible refine W.region ?_ | refine z_p (kk := ?_)))
    refine W.fret rfl ⟨?_, Below.refl _ _⟩
    have : o = .nil := by cases o with
      | nil => rfl
      | cons e c r => simp [lenO] at hl; omega
    subst this
    rfl
  · refine W.condF rfl (by first | rfl | assumption | (simp only [bnf] <;> omega) | (simp only [*, bnf]; done) | fail) ?_
    (repeat (first | with_reducible refine W.seq ?_ | with_reducible refine Ops.nil ?_ | with_reducible refine W.region ?_ | refine z_p (kk := ?_) | with_reducible refine W.skip ?_ | with_reducible refine W.block ?_ | refine z_l (kk := ?_)))
    refine W.loop (fun m ρ w' => ∃ (i : Nat) (lv : Value), m = l.length - i ∧ i ≤ l.length ∧ OI 9 S w w' lv ((partsT o).take i) ∧ ρ = [(3, lv), (9, .slice A l.length c), (10, .int .i64 l.length), (11, .int .i64 i)])
      ⟨_, _, ⟨0, _, rfl, Nat.zero_le _, OI.nil (Below.refl _ _), rfl⟩, (by repeat (first | exact trivial | refine And.intro rfl ?_))⟩ ?_
    rintro m ρ w1 ⟨i, lv, rfl, hi, hO, rfl⟩
    have hb1 := hO.bel
    (repeat (first | with_reducible refine W.seq ?_ | with_reducible refine Ops.nil ?_ | with_reducible refine W.region ?_ | refine z_p (kk := ?_)))
    (first | refine W.condD rfl (fun hc => ?_) (fun hc => ?_) | refine W.condE rfl (fun hc => ?_) (fun hc => ?_) | refine W.condN rfl (fun hc => ?_) (fun hc => ?_) | refine W.cond rfl (fun hc => ?_) (fun hc => ?_))
    · have hil : i < l.length := by omega
      obtain ⟨a2, aM⟩ := hA.at_ (i := i) (by omega)
      have ha1 := aM.one
      have aM1 := aM.below hb1
      have hsz := nthE_sz (o := o) (i := i) (by omega)
      obtain ⟨m1, m2⟩ := nth_most (o := o) (i := i) (by omega)
      have htk := partsT_at (o := o) (i := i) (by omega)
      have hxl := txO_len (o := nthE o i) (by omega)
      have hdl := dec_len (c := nthC o i) (by omega)
      have hpl : ((partsT o).take i).length = i := by rw [List.length_take, partsT_len]; omega
      generalize hva : (l.getD i default).1 = va at *
      generalize hca : (l.getD i default).2 = cc at *
      subst a2
      (repeat (first | with_reducible refine W.seq ?_ | with_reducible refine W.region ?_ | with_reducible refine W.skip ?_ | with_reducible refine W.block ?_ | refine z_R2 (kk := fun _ => ?_)))
      rw [hva, hca]
      refine Ops.alloc rfl rfl rfl rfl (fun w2 b2 hM2 => ?_)
      skip
      refine Ops.stN (vs := [va, .int .i64 (nthC o i : Nat)]) (cs := [.slice none 0 0, .int .i64 0]) rfl rfl rfl rfl rfl rfl (by intro v hv; simp at hv; rcases hv with rfl | rfl; exact ha1; rfl) rfl hM2.at_ (fun w3 hu3 => ?_)
      have B3 : Blk w3 b2 #[va, .int .i64 (nthC o i : Nat)] 119 := hu3.blk
      have e2 := hM2.r_eq
      have hb13 : Below w1.heap.size w1 w3 := Below.put (Mk.bel hM2) hu3.kp (fun k e => by omega)
      have hO3 := hO.below hb13
      (repeat (first | with_reducible refine Ops.nil ?_))
      refine W.ordA 10 [(0, 1), (1, 1), (2, 2), (3, 2), (4, 1), (5, 1), (6, 1), (7, 2), (8, 2), (9, 1), (10, 0), (11, 0), (12, 1)] rfl (by kernel_rfl) rfl (by kernel_rfl) (fun _ _ _ h => h) ?_
      (repeat (first | refine x_p (kk := ?_) | refine x_f2 (kk := ?_) | refine x_D (kk := ?_)))
      refine OrdA.call rfl rfl rfl rfl rfl rfl rfl (fun w' hw' => Calls.via hw' (ih _ (show szO (nthE o i) < n by omega) (Nat.le_refl _) (by omega) (by omega) ((hT.below hb1).below (Below.via hb13 hw')) (aM1.below (Below.via hb13 hw')))) ?_
      (repeat (first | refine x_f2 (kk := ?_) | refine x_ev rfl (fun _ => EV.sadd rfl rfl rfl (by first | omega | (simp only [List.length_append, List.length_cons, List.length_nil]; omega))) (kk := ?_) | refine x_D (kk := ?_)))
      refine OrdA.call rfl rfl rfl rfl rfl rfl rfl (fun w' hw' => Calls.via hw' (itoa_c (n := nthC o i) ((hT.below hb1).below (Below.via hb13 hw')) (by omega))) ?_
      (repeat (first | refine x_ev rfl (fun _ => EV.sadd rfl rfl rfl (by first | omega | (simp only [List.length_append, List.length_cons, List.length_nil]; omega))) (kk := ?_)))
      refine OrdA.tail (fun w4 hb4 => ?_)
      have hO4 := hO3.below hb4
      refine VW.Ord.pushO (enc := S) (u := partT (nthE o i) (nthC o i)) rfl rfl rfl rfl rfl rfl rfl rfl rfl rfl rfl rfl rfl rfl (fun _ => rfl) rfl hO4 (by omega) (fun _ _ _ _ _ _ => trivial) trivial (fun lv' p w5 _ hO5 k5 hn5 => ?_)
      (repeat (first | refine y_p (kk := ?_)))
      refine VW.Ord.nil ?_
      (repeat (first | with_reducible refine Ops.nil ?_ | with_reducible refine W.region ?_ | refine z_p (kk := ?_) | refine z_a (kk := ?_) | with_reducible refine W.endb ?_))
      exact W.endl ⟨_, _, ⟨⟨i + 1, lv', rfl, by omega, by rw [htk]; exact hO5, rfl⟩, by omega⟩, (by repeat (first | exact trivial | refine And.intro rfl ?_))⟩
    · have hil : i = l.length := by omega
      subst hil
      rw [List.take_of_length_le (by rw [partsT_len]; omega)] at hO
      have hne : o ≠ .nil := by intro e; subst e; have : lenO .nil = 0 := rfl; omega
      have hj := join_parts o hne
      have hjl := txP_len o hmost
      (repeat (first | with_reducible refine W.seq ?_ | with_reducible refine W.region ?_ | refine z_p (kk := ?_) | refine W.exit rfl ?_))
      refine Ops.call rfl rfl rfl rfl rfl (join_c hO (by rw [partsT_len]; omega) (by rw [partsT_len]; omega) (by rw [hj]; omega)) (fun r w2 hR2 => ?_)
      obtain ⟨rfl, hb2⟩ := hR2
      (repeat (first | with_reducible refine Ops.nil ?_ | refine z_p (kk := ?_)))
      refine W.fret rfl ⟨?_, Below.via hb1 hb2⟩
      rw [hj]
      unfold txO
      cases o with
      | nil => exact absurd rfl hne
      | cons e c r => rfl
end Go.Proofs.YtcmjlmnfdncajaaGreatDoor
namespace Go.Proofs.YtcmjlmnfdncajaaGreatDoor
open Go Go.RowKit Go.Proofs.YtcmjlmnfdncajaaGreatDoor.VW Go.Proofs.YtcmjlmnfdncajaaGreatDoor.TW
attribute [local irreducible] W Ops OrdA VW.Ord OrdX Wi OpsI OrdF
theorem pre_take : ∀ (p s : List UInt8), (pre p s).isSome = decide (p.length ≤ s.length ∧ s.take p.length = p)
  | [], s => by simp [pre]
  | a :: p, [] => by simp [pre]
  | a :: p, b :: s => by
    have ih := pre_take p s
    simp only [pre]
    by_cases h : a = b
    · rw [if_pos h, ih]
      subst h
      simp
    · rw [if_neg h]
      simp
      intro _ e
      exact absurd e.symm h
theorem pre_drop {p s t : List UInt8} (h : pre p s = some t) : s.drop p.length = t ∧ p.length ≤ s.length ∧ t.length = s.length - p.length := by
  have := pre_some h
  subst this
  simp
theorem hasP1_c {w : World} {s p : List UInt8} (hs : s.length ≤ 9223372036854775807) : Calls Tryz.prog 138 #[S s, S p] w (Ret fun r w' => r = .bool (pre p s).isSome ∧ w' = w) := by
  refine calls_W (vs := [_, _]) Tryz.func138 rfl (by kernel_rfl) rfl ?_
  rw [pre_take]
  by_cases h : p.length ≤ s.length
  · (repeat (first | with_reducible refine W.seq ?_ | with_reducible refine Ops.nil ?_ | with_reducible refine W.region ?_ | refine z_p (kk := ?_) | refine z_y (kk := ?_) | refine z_ev (EV.slen rfl rfl rfl) (kk := ?_) | refine z_ev (EV.seq rfl rfl rfl rfl) (kk := ?_) | refine z_ev (EV.sto rfl rfl rfl rfl (by omega)) (kk := ?_) | refine z_h (kk := ?_)))
    refine W.fret rfl ⟨?_, rfl⟩
    show Value.bool _ = _
    simp [h]
  · (repeat (first | with_reducible refine W.seq ?_ | with_reducible refine Ops.nil ?_ | with_reducible refine W.region ?_ | refine z_p (kk := ?_) | refine z_n (kk := ?_) | refine z_ev (EV.slen rfl rfl rfl) (kk := ?_) | refine z_g (kk := ?_)))
    refine W.fret rfl ⟨?_, rfl⟩
    show Value.bool _ = _
    simp [h]
theorem hasP_c {w : World} {s p : List UInt8} (hs : s.length ≤ 9223372036854775807) : Calls Tryz.prog 127 #[S s, S p] w (Ret fun r w' => r = .bool (pre p s).isSome ∧ w' = w) := by
  refine calls_W (vs := [_, _]) Tryz.func127 rfl (by kernel_rfl) rfl ?_
  (repeat (first | with_reducible refine W.seq ?_ | with_reducible refine Ops.nil ?_ | with_reducible refine W.region ?_ | refine z_p (kk := ?_)))
  refine Ops.callS rfl rfl rfl rfl rfl (hasP1_c hs) ?_
  (repeat (first | with_reducible refine Ops.nil ?_ | refine z_p (kk := ?_)))
  exact W.fret rfl ⟨rfl, rfl⟩
theorem cutP1_c {w : World} {s p : List UInt8} (hs : s.length ≤ 9223372036854775807) : Calls Tryz.prog 142 #[S s, S p] w (Ret fun r w' => r = .tuple #[S ((pre p s).getD s), .bool (pre p s).isSome] ∧ w' = w) := by
  refine calls_W (vs := [_, _]) Tryz.func142 rfl (by kernel_rfl) rfl ?_
  (repeat (first | with_reducible refine W.seq ?_ | with_reducible refine Ops.nil ?_ | with_reducible refine W.region ?_ | refine z_p (kk := ?_)))
  refine Ops.callS rfl rfl rfl rfl rfl (hasP1_c hs) ?_
  cases hp : pre p s with
  | none =>
    rw [show (none : Option (List UInt8)).isSome = false from rfl]
    (repeat (first | with_reducible refine Ops.nil ?_ | refine z_p (kk := ?_)))
    refine W.condT rfl (by first | rfl | assumption | (simp only [bnf] <;> omega) | (simp only [*, bnf]; done) | fail) ?_
    (repeat (first | with_reducible refine W.seq ?_ | with_reducible refine Ops.nil ?_ | with_reducible refine W.region ?_ | refine z_p (kk := ?_)))
    exact W.fret rfl ⟨rfl, rfl⟩
  | some t =>
    obtain ⟨h1, h2, h3⟩ := pre_drop hp
    rw [show (some t).isSome = true from rfl]
    (repeat (first | with_reducible refine Ops.nil ?_ | refine z_p (kk := ?_)))
    refine W.condF rfl (by first | rfl | assumption | (simp only [bnf] <;> omega) | (simp only [*, bnf]; done) | fail) ?_
    (repeat (first | with_reducible refine W.seq ?_ | with_reducible refine Ops.nil ?_ | with_reducible refine W.region ?_ | refine z_p (kk := ?_) | with_reducible refine W.skip ?_ | refine z_ev (EV.slen rfl rfl rfl) (kk := ?_) | refine z_ev (EV.sfrom rfl rfl rfl rfl (by omega)) (kk := ?_)))
    rw [h1]
    skip
    exact W.fret rfl ⟨rfl, rfl⟩
theorem cutP_c {w : World} {s p : List UInt8} (hs : s.length ≤ 9223372036854775807) : Calls Tryz.prog 132 #[S s, S p] w (Ret fun r w' => r = .tuple #[S ((pre p s).getD s), .bool (pre p s).isSome] ∧ w' = w) := by
  refine calls_W (vs := [_, _]) Tryz.func132 rfl (by kernel_rfl) rfl ?_
  (repeat (first | with_reducible refine W.seq ?_ | with_reducible refine Ops.nil ?_ | with_reducible refine W.region ?_ | refine z_p (kk := ?_)))
  refine Ops.callS rfl rfl rfl rfl rfl (cutP1_c hs) ?_
  (repeat (first | with_reducible refine Ops.nil ?_ | refine z_p (kk := ?_)))
  exact W.fret rfl ⟨rfl, rfl⟩
/-- A reader: what is left to read, and the size. -/
abbrev Rd (w : World) (b : Nat) (s : List UInt8) (k : Nat) : Prop := Blk w b #[S s, .int .i64 (k : Int)] 115
theorem skip_c {w : World} {b k : Nat} {s p : List UInt8} (hs : s.length ≤ 9223372036854775807) (hB : Rd w b s k) : Calls Tryz.prog 118 #[.pointer (some ⟨b, 0, none⟩), S p] w (Ret fun r w' => r = .bool (pre p s).isSome ∧ Rd w' b ((pre p s).getD s) k ∧ Kp (fun i => i = b) w w') := by
  refine calls_W (vs := [_, _]) Tryz.func118 rfl (by kernel_rfl) rfl ?_
  (repeat (first | with_reducible refine W.seq ?_ | with_reducible refine Ops.nil ?_ | with_reducible refine W.region ?_ | refine z_p (kk := ?_) | refine z_f (kk := ?_) | refine z_d (kk := ?_)))
  refine Ops.callS rfl rfl rfl rfl rfl (cutP_c hs) ?_
  (repeat (first | with_reducible refine W.seq ?_ | with_reducible refine Ops.nil ?_ | with_reducible refine W.region ?_ | refine z_p (kk := ?_)))
  cases hp : pre p s with
  | none =>
    refine W.condF rfl (by first | rfl | assumption | (simp only [bnf] <;> omega) | (simp only [*, bnf]; done) | fail) ?_
    (repeat (first | with_reducible refine W.seq ?_ | with_reducible refine Ops.nil ?_ | with_reducible refine W.region ?_ | refine z_p (kk := ?_) | with_reducible refine W.skip ?_))
    exact W.fret rfl ⟨rfl, hB, Kp.refl _ _⟩
  | some t =>
    refine W.condT rfl (by first | rfl | assumption | (simp only [bnf] <;> omega) | (simp only [*, bnf]; done) | fail) ?_
    (repeat (first | with_reducible refine W.region ?_ | refine z_p (kk := ?_) | refine z_f (kk := ?_)))
    refine Ops.st rfl rfl rfl rfl rfl rfl rfl hB (by simp) (fun w1 hu => ?_)
    (repeat (first | with_reducible refine W.seq ?_ | with_reducible refine Ops.nil ?_ | with_reducible refine W.region ?_ | refine z_p (kk := ?_)))
    refine W.fret rfl ⟨rfl, ?_, hu.kp⟩
    simpa using hu.blk
theorem want_c {w : World} {b k : Nat} {s p : List UInt8} (hs : s.length ≤ 9223372036854775807) (hB : Rd w b s k) : Calls Tryz.prog 119 #[.pointer (some ⟨b, 0, none⟩), S p] w (RetP (fun r w' => ∃ t, pre p s = some t ∧ Rd w' b t k ∧ Kp (fun i => i = b) w w') (fun ch w' => ch = trb 4 ∧ pre p s = none ∧ Kp (fun i => i = b) w w')) := by
  refine calls_WP (vs := [_, _]) Tryz.func119 rfl (by kernel_rfl) rfl ?_
  (repeat (first | with_reducible refine W.region ?_ | refine z_p (kk := ?_)))
  refine Ops.call rfl rfl rfl rfl rfl (skip_c hs hB) (fun r w1 hR => ?_)
  obtain ⟨rfl, hB1, k1⟩ := hR
  skip
  refine Ops.callP rfl rfl rfl rfl rfl (demand_c _ _ _) (fun r w2 hR => ?_) (fun ch w2 hR => ?_)
  · obtain ⟨hb, rfl⟩ := hR
    cases hp : pre p s with
    | none => rw [hp] at hb; simp at hb
    | some t =>
      rw [hp] at hB1
      (repeat (first | with_reducible refine Ops.nil ?_))
      exact W.fendP rfl ⟨t, rfl, hB1, k1⟩
  · obtain ⟨hb, rfl, rfl⟩ := hR
    cases hp : pre p s with
    | none => exact ⟨rfl, rfl, k1⟩
    | some t => rw [hp] at hb; simp at hb
theorem dig_all : ∀ n : Fin 256, ([48, 49, 50, 51, 52, 53, 54, 55, 56, 57] : List UInt8).contains (UInt8.ofNat n.1) = isD (UInt8.ofNat n.1) := by decide +kernel
theorem dig_eq (b : UInt8) : ([48, 49, 50, 51, 52, 53, 54, 55, 56, 57] : List UInt8).contains b = isD b := by
  have := dig_all ⟨b.toNat, b.toNat_lt⟩
  simpa using this
theorem isD_val {b : UInt8} (h : isD b = true) : Lib.digitVal b = some (b.toNat - 48) := by
  unfold isD at h
  simp only [Bool.and_eq_true, decide_eq_true_eq, UInt8.le_iff_toNat_le] at h
  unfold Lib.digitVal
  exact if_pos h
theorem decFrom_val : ∀ (d : List UInt8) (acc : Nat), (∀ b, b ∈ d → isD b = true) → Lib.decFrom acc d = some (d.foldl (fun n b => 10 * n + (b.toNat - 48)) acc)
  | [], acc, _ => rfl
  | b :: r, acc, h => by
    rw [Lib.decFrom, isD_val (h b (List.mem_cons_self ..))]
    simp only [List.foldl_cons]
    rw [decFrom_val r _ (fun x hx => h x (List.mem_cons_of_mem _ hx)), Nat.mul_comm acc 10]
theorem atoi_val {d : List UInt8} (hp : d ≠ []) (h : ∀ b, b ∈ d → isD b = true) : Lib.atoi d = some ((valD d : Nat) : Int) := by
  cases d with
  | nil => exact absurd rfl hp
  | cons b r =>
    have hb := h b (List.mem_cons_self ..)
    have h1 : ¬ (b == 45) = true := by
      intro e; rw [beq_iff_eq] at e; subst e; exact absurd hb (by decide)
    have h2 : ¬ (b == 43) = true := by
      intro e; rw [beq_iff_eq] at e; subst e; exact absurd hb (by decide)
    rw [Lib.atoi, if_neg h1, if_neg h2, Lib.decNat, if_neg (by simp), decFrom_val _ _ h]
    rfl
theorem bytesWorld_bel (w : World) (e : TypeId) (s : ByteArray) : Below w.heap.size w (Lib.bytesWorld w e s) := by
  exact Kp.below (S := fun _ => False) ⟨rfl, rfl, rfl, by rw [Lib.bytesWorld_size]; omega, fun i hi _ => Lib.bytesWorld_at_old w e s i hi⟩ (Nat.le_refl _) (fun _ _ e => e)
theorem tw_mem {p : UInt8 → Bool} : ∀ (l : List UInt8) b, b ∈ l.takeWhile p → p b = true
  | [], b, h => by simp at h
  | a :: l, b, h => by
    simp only [List.takeWhile_cons] at h
    split at h
    · rcases List.mem_cons.1 h with e | e
      · subst e; assumption
      · exact tw_mem l b e
    · simp at h
theorem tw_len (p : UInt8 → Bool) (l : List UInt8) : (l.takeWhile p).length + (l.dropWhile p).length = l.length := by
  have := congrArg List.length (List.takeWhile_append_dropWhile (p := p) (l := l))
  rw [List.length_append] at this
  exact this
theorem tw_take (p : UInt8 → Bool) (l : List UInt8) : l.take (l.takeWhile p).length = l.takeWhile p ∧ l.drop (l.takeWhile p).length = l.dropWhile p := by
  have key : ∀ d t : List UInt8, d ++ t = l → l.take d.length = d ∧ l.drop d.length = t := by rintro d t rfl; simp
  exact key _ _ List.takeWhile_append_dropWhile
set_option maxHeartbeats 4000000 in
theorem number_c {w : World} {b k : Nat} {s : List UInt8} (hs : s.length ≤ 4294967295) (hB : Rd w b s k) : Calls Tryz.prog 120 #[.pointer (some ⟨b, 0, none⟩)] w (RetP (fun r w' => ∃ c t, rdN s = some (c, t) ∧ r = .int .i64 (c : Nat) ∧ Rd w' b t k ∧ Kp (fun i => i = b) w w') (fun ch w' => ch = trb 4 ∧ rdN s = none ∧ Kp (fun i => i = b) w w')) := by
  have hb := hB.lt
  have hww : Below w.heap.size w w := Below.refl _ _
  refine calls_WP (vs := [_]) Tryz.func120 rfl (by kernel_rfl) rfl ?_
  (repeat (first | with_reducible refine W.seq ?_ | with_reducible refine Ops.nil ?_ | with_reducible refine W.region ?_ | refine z_p (kk := ?_)))
  refine W.ordA 99 [(0, 1), (1, 1), (2, 1), (3, 2), (4, 1), (5, 1), (6, 1), (7, 1), (8, 2), (9, 2), (10, 1), (11, 1), (12, 1)] rfl (by kernel_rfl) rfl (by kernel_rfl) (fun _ _ _ h => h) ?_
  (repeat (first | refine x_p (kk := ?_) | refine x_f2 (kk := ?_) | refine x_ev rfl (fun _ => EV.slen rfl rfl rfl) (kk := ?_) | refine x_D (kk := ?_)))
  refine OrdA.call rfl rfl rfl rfl rfl rfl rfl (v := S (s.dropWhile isD)) (fun w' hw' => (Any.strings_TrimLeft_laid Tryz.lays161 (by kernel_rfl) ⟨s.toArray⟩ ⟨#[48, 49, 50, 51, 52, 53, 54, 55, 56, 57]⟩ w' (by decide) (fun j b hj => ?_)).mono fun e w'' ⟨he, hb⟩ => ⟨_, he, ?_, Below.via hw' hb⟩) ?_
  · have : b ∈ ([48, 49, 50, 51, 52, 53, 54, 55, 56, 57] : List UInt8) := List.mem_of_getElem? hj
    simp at this
    rcases this with e | e | e | e | e | e | e | e | e | e <;> subst e <;> decide
  · show Value.string _ = Value.string _
    unfold Lib.trimLeftS
    simp only [dig_eq]
  have hl := tw_len isD s
  obtain ⟨t1, t2⟩ := tw_take isD s
  have hmem := tw_mem (p := isD) s
  have hrd : rdN s = if (1 ≤ (s.takeWhile isD).length ∧ (s.takeWhile isD).length ≤ 4) ∧ s.head? ≠ some 48 ∧ valD (s.takeWhile isD) ≤ 1000 then some (valD (s.takeWhile isD), s.dropWhile isD) else none := rfl
  generalize s.takeWhile isD = d at *
  generalize s.dropWhile isD = t at *
  (repeat (first | refine x_p (kk := ?_) | refine x_a (kk := ?_) | refine x_ev rfl (fun _ => EV.slen rfl rfl rfl) (kk := ?_)))
  rw [show ((s.length : Nat) : Int) - ((t.length : Nat) : Int) = ((d.length : Nat) : Int) by omega]
  skip
  refine OrdA.nil (fun w1 hb1 => ?_)
  have hB1 : Rd w1 b s k := hB.kp (Kp.of_below (S := fun _ => False) hb1) (fun e => e)
  have k01 : Kp (fun i => i = b) w w1 := (Kp.of_below (S := fun _ => False) hb1).mono (fun _ _ e => e.elim)
  have hww1 : Below w1.heap.size w1 w1 := Below.refl _ _
  (repeat (first | with_reducible refine W.seq ?_ | with_reducible refine W.region ?_ | refine z_p (kk := ?_)))
  refine Ops.callS rfl rfl rfl rfl rfl (within_c _ _ _ _) ?_
  by_cases hw : (1 : Int) ≤ d.length ∧ (d.length : Int) ≤ 4
  · rw [decide_eq_true hw]
    (repeat (first | refine z_p (kk := ?_) | refine z_y (kk := ?_) | refine z_f (kk := ?_) | refine z_d (kk := ?_)))
    refine z_ev (EV.sidx (i := 0) rfl rfl rfl rfl (by omega)) (kk := ?_)
    (repeat (first | refine z_p (kk := ?_) | refine z_y (kk := ?_)))
    have hh : s.head? = some (s.getD 0 0) := by
      cases s with
      | nil => have : ([] : List UInt8).length = 0 := rfl; omega
      | cons a r => rfl
    by_cases h48 : s.getD 0 0 = 48
    · rw [h48]
      skip
      refine Ops.callP rfl rfl rfl rfl rfl (demand_c _ _ _) (fun r w2 hR => ?_) (fun ch w2 hR => ?_)
      · exact absurd hR.1 (by decide)
      · obtain ⟨_, rfl, rfl⟩ := hR
        exact ⟨rfl, by rw [hrd, if_neg (fun h => h.2.1 (by rw [hh, h48]))], k01⟩
    · have hne : ((((s.getD 0 0).toNat : Nat) : Int) != 48) = true := by
        rw [bne_iff_ne]
        intro e
        exact h48 (UInt8.toNat_inj.1 (by rw [show (48 : UInt8).toNat = 48 from rfl]; omega))
      rw [hne]
      skip
      refine Ops.callP rfl rfl rfl rfl rfl (demand_c _ _ _) (fun r w2 hR => ?_) (fun ch w2 hR => ?_)
      · obtain ⟨-, rfl⟩ := hR
        (repeat (first | with_reducible refine W.seq ?_ | with_reducible refine Ops.nil ?_ | with_reducible refine W.region ?_ | refine z_p (kk := ?_) | refine z_f (kk := ?_) | refine z_d (kk := ?_) | refine z_ev (EV.sto rfl rfl rfl rfl (by omega)) (kk := ?_)))
        rw [t1]
        refine Ops.call rfl rfl rfl rfl rfl (R := fun r w' => r = .tuple #[.int .i64 (valD d : Nat), .nilIface] ∧ Below w2.heap.size w2 w') ((Any.strconv_Atoi Tryz.lays172 ⟨d.toArray⟩ ((valD d : Nat) : Int) (by rw [ba_size]; omega) (atoi_val (by intro e; subst e; simp at hw) hmem) w2).mono fun e w' ⟨he, t, hw'⟩ => ⟨_, he, rfl, by rw [hw']; exact bytesWorld_bel _ _ _⟩) (fun r w3 hR => ?_)
        obtain ⟨rfl, hb3⟩ := hR
        have hB3 : Rd w3 b s k := hB1.kp (Kp.of_below (S := fun _ => False) hb3) (fun e => e)
        have k03 : Kp (fun i => i = b) w w3 := (k01.trans (Kp.of_below (S := fun _ => False) hb3)).mono (fun _ _ e => by rcases e with e | e; exact e; exact e.elim)
        have hww3 : Below w3.heap.size w3 w3 := Below.refl _ _
        (repeat (first | with_reducible refine W.seq ?_ | with_reducible refine Ops.nil ?_ | with_reducible refine W.region ?_ | refine z_p (kk := ?_)))
        refine Ops.callP rfl rfl rfl rfl rfl (demand_c _ _ _) (fun r w4 hR => ?_) (fun ch w4 hR => ?_)
        · obtain ⟨hle, rfl⟩ := hR
          have hle' : valD d ≤ 1000 := by simp at hle; omega
          (repeat (first | with_reducible refine W.seq ?_ | with_reducible refine Ops.nil ?_ | with_reducible refine W.region ?_ | refine z_p (kk := ?_) | refine z_f (kk := ?_) | refine z_d (kk := ?_) | refine z_ev (EV.sfrom rfl rfl rfl rfl (by omega)) (kk := ?_)))
          rw [t2]
          refine Ops.st rfl rfl rfl rfl rfl rfl rfl hB3 (by simp) (fun w5 hu => ?_)
          (repeat (first | with_reducible refine W.seq ?_ | with_reducible refine Ops.nil ?_ | with_reducible refine W.region ?_ | refine z_p (kk := ?_)))
          refine W.fretP rfl ⟨valD d, t, by rw [hrd, if_pos ⟨by omega, by rw [hh]; simpa using h48, hle'⟩], rfl, by simpa using hu.blk, (k03.trans hu.kp).mono (fun _ _ e => by rcases e with e | e <;> exact e)⟩
        · obtain ⟨hle, rfl, rfl⟩ := hR
          exact ⟨rfl, by rw [hrd, if_neg (fun h => by simp at hle; omega)], k03⟩
      · exact absurd hR.1 (by decide)
  · rw [decide_eq_false hw]
    (repeat (first | refine z_p (kk := ?_) | refine z_n (kk := ?_)))
    refine Ops.callP rfl rfl rfl rfl rfl (demand_c _ _ _) (fun r w2 hR => ?_) (fun ch w2 hR => ?_)
    · exact absurd hR.1 (by decide)
    · obtain ⟨_, rfl, rfl⟩ := hR
      exact ⟨rfl, by rw [hrd, if_neg (fun h => hw (by omega))], k01⟩
end Go.Proofs.YtcmjlmnfdncajaaGreatDoor
/- Plain: what is read, part by part. -/
namespace Go.Proofs.YtcmjlmnfdncajaaGreatDoor.TW
def appO : Od → Od → Od
  | .nil, r => r
  | .cons e c a, r => .cons e c (appO a r)
def lastE : Od → Option Od
  | .nil => none
  | .cons e _ .nil => some e
  | .cons _ _ (.cons e c r) => lastE (.cons e c r)
def snocO (a e : Od) (c : Nat) : Od := appO a (.cons e c .nil)
theorem appO_nil : ∀ a, appO a .nil = a
  | .nil => rfl
  | .cons e c r => by rw [appO, appO_nil r]
theorem appO_snoc : ∀ (a e r : Od) (c : Nat), appO (snocO a e c) r = appO a (.cons e c r)
  | .nil, e, r, c => rfl
  | .cons e' c' a, e, r, c => by
    have := appO_snoc a e r c
    simp only [snocO, appO] at this ⊢
    rw [this]
theorem lastE_snoc : ∀ (a e : Od) (c : Nat), lastE (snocO a e c) = some e
  | .nil, e, c => rfl
  | .cons e' c' .nil, e, c => rfl
  | .cons e' c' (.cons e2 c2 r2), e, c => by
    have := lastE_snoc (.cons e2 c2 r2) e c
    simp only [snocO, appO] at this ⊢
    rw [lastE]
    exact this
theorem szO_app : ∀ (a r : Od), szO (appO a r) = szO a + szO r
  | .nil, r => by simp [appO, szO]
  | .cons e c a, r => by simp only [appO, szO, szO_app a r]; omega
theorem lenO_app : ∀ (a r : Od), lenO (appO a r) = lenO a + lenO r
  | .nil, r => by simp [appO, lenO]
  | .cons e c a, r => by simp only [appO, lenO, lenO_app a r]; omega
theorem snoc_ne (a e : Od) (c : Nat) : snocO a e c ≠ .nil := by cases a <;> simp [snocO, appO]
theorem pre_len : ∀ {p s t : By}, pre p s = some t → t.length + p.length = s.length := fun h => by
  have := pre_some h
  subst this
  simp; omega
theorem rdN_len {s : By} {c : Nat} {t : By} (h : rdN s = some (c, t)) : t.length ≤ s.length ∧ 1 ≤ c ∧ c ≤ 1000 := by
  unfold rdN at h
  split at h
  · rename_i hc
    simp only [Option.some.injEq, Prod.mk.injEq] at h
    obtain ⟨h1, h2⟩ := h
    subst h1; subst h2
    refine ⟨?_, ?_, hc.2.2⟩
    · have := congrArg List.length (List.takeWhile_append_dropWhile (p := isD) (l := s))
      rw [List.length_append] at this
      omega
    · obtain ⟨⟨h1, _⟩, h2, _⟩ := hc
      cases s with
      | nil => simp at h1
      | cons b r =>
        simp only [List.takeWhile_cons] at h1 ⊢
        split
        · rename_i hb
          have hb' : 48 ≤ b.toNat := by
            unfold isD at hb
            simp only [Bool.and_eq_true, decide_eq_true_eq, UInt8.le_iff_toNat_le] at hb
            exact hb.1
          have hne : b.toNat ≠ 48 := fun e => h2 (by
            have : b = 48 := UInt8.toNat_inj.1 e
            rw [this]; rfl)
          have key : ∀ (l : By) a, 1 ≤ a → 1 ≤ l.foldl (fun n b => 10 * n + (b.toNat - 48)) a := fun l => by
            induction l with
            | nil => intro a ha; exact ha
            | cons x l ih =>
              intro a ha
              refine ih _ ?_
              show 1 ≤ 10 * a + (x.toNat - 48)
              omega
          unfold valD
          rw [List.foldl_cons]
          refine key _ _ ?_
          omega
        · rename_i hb
          rw [if_neg hb] at h1
          simp at h1
  · simp at h
/-- One part is read. -/
structure Part1 (n : Nat) (s : By) (last : Option Od) (e : Od) (c : Nat) (s4 : By) : Prop where
  len : s4.length + 5 ≤ s.length
  ok : okL last e = true
  c1 : 1 ≤ c ∧ c ≤ 1000
theorem rdP_spec : ∀ {n : Nat} {s : By} {last : Option Od} {o : Od} {t : By}, rdP n s last = some (o, t) → t.length + 5 ≤ s.length ∧ 1 ≤ szO o ∧ NF o ∧ Small o ∧ (∀ l, last = some l → HdLt l o)
  | 0, s, last, o, t, h => by simp [rdP] at h
  | n + 1, s, last, o, t, h => by
    have hE : ∀ {s e s2}, rdE (fun s => rdP n s none) s = some (e, s2) → s2.length ≤ s.length ∧ NF e ∧ Small e := fun {s e s2} h => by
      unfold rdE at h
      split at h
      · simp only [Option.some.injEq, Prod.mk.injEq] at h
        obtain ⟨h1, h2⟩ := h
        subst h1; subst h2
        exact ⟨by simp, trivial, trivial⟩
      · have := rdP_spec h
        exact ⟨by omega, this.2.2.1, this.2.2.2.1⟩
    simp only [rdP] at h
    split at h
    · simp at h
    · rename_i s1 h1
      split at h
      · simp at h
      · rename_i e s2 h2
        split at h
        · simp at h
        · rename_i s3 h3
          split at h
          · simp at h
          · rename_i c s4 h4
            have l1 := pre_len h1
            have l2 := hE h2
            have l3 := pre_len h3
            have l4 := rdN_len h4
            have w1 : sW.length = 3 := rfl
            have w2 : sM.length = 2 := rfl
            split at h
            · rename_i hok
              have hlt : ∀ l, last = some l → HdLt l (.cons e c .nil) := fun l hl => by
                subst hl
                have : cmpO e l < 0 := of_decide_eq_true hok
                show ltO e l
                unfold ltO
                have := cmp_rng e l
                omega
              split at h
              · rename_i s5 
                split at h
                · simp at h
                · rename_i r s6 h6
                  simp only [Option.some.injEq, Prod.mk.injEq] at h
                  obtain ⟨q1, q2⟩ := h
                  subst q1; subst q2
                  have := rdP_spec h6
                  simp only [List.length_cons] at l4
                  exact ⟨by omega, by simp only [szO]; omega, ⟨l2.2.1, by omega, this.2.2.1, this.2.2.2.2 e rfl⟩, ⟨l2.2.2, by omega, this.2.2.2.1⟩, hlt⟩
              · simp only [Option.some.injEq, Prod.mk.injEq] at h
                obtain ⟨q1, q2⟩ := h
                subst q1; subst q2
                exact ⟨by omega, by simp only [szO]; omega, ⟨l2.2.1, by omega, trivial, trivial⟩, ⟨l2.2.2, by omega, trivial⟩, hlt⟩
            · simp at h
theorem rdE_spec {n : Nat} {s : By} {o : Od} {t : By} (h : rdE (fun s => rdP n s none) s = some (o, t)) : t.length < s.length ∧ NF o ∧ Small o := by
  unfold rdE at h
  split at h
  · simp only [Option.some.injEq, Prod.mk.injEq] at h
    obtain ⟨h1, h2⟩ := h
    subst h1; subst h2
    exact ⟨by simp, trivial, trivial⟩
  · have := rdP_spec h
    exact ⟨by omega, this.2.2.1, this.2.2.2.1⟩
theorem rdO_eq (s : By) : rdO s = rdE (fun s' => rdP (s.length + 1) s' none) s := by
  unfold rdO rdE
  split <;> rfl
theorem small_most : ∀ {o : Od}, Small o → mostO o ≤ 1000
  | .nil, _ => by simp [mostO]
  | .cons e c r, h => by
    have h1 := small_most h.1
    have h2 := small_most h.2.2
    have := h.2.1
    simp only [mostO]; omega
theorem rdA_spec {s : By} {o : Od} (h : rdA s = some o) : NF o ∧ Small o ∧ szO o ≤ 60 := by
  unfold rdA at h
  split at h
  · rename_i o' h1
    split at h
    · simp only [Option.some.injEq] at h
      subst h
      rw [rdO_eq] at h1
      have := rdE_spec h1
      exact ⟨this.2.1, this.2.2, by assumption⟩
    · simp at h
  · simp at h
end Go.Proofs.YtcmjlmnfdncajaaGreatDoor.TW
/- Results in variables; a walk as a part of another one; a struct of which one field is given. -/
namespace Go.Proofs.YtcmjlmnfdncajaaGreatDoor.VW
open Go Go.RowKit
theorem wp_W {P : Program} {n : Nat} {ds : List Deferred} {c : Code} {Φ : Post} {ρ : E} {w : World} {a : Act} {Q : Exit → Act → World → Prop} (h : W P n ds [.code c] Φ ρ w) (hi : inB n c = true) (hr : Rep n a ρ) (hd : a.defers = ds)
    (hk : ∀ e a' ρ' w', Rep n a' ρ' → LiftD ds Φ e a'.defers ρ' w' → Q e a' w') : c.wp P Q a w :=
  wp_mono (h hi a hr hd) (fun e a w ⟨ρ, r, d⟩ => hk e a ρ w r d)
theorem rep_arg {n : Nat} {vs : List Value} (hs : vs.length ≤ n) : Rep n { tmps := vs.toArray ++ Array.replicate (n - vs.toArray.size) undef, defers := [] } (argE vs 0) := by
  refine ⟨by simp; omega, fun t v hl => ?_⟩
  obtain ⟨_, h2⟩ := look_argE vs 0 t v hl
  have ht : t < vs.length := by
    rw [Nat.sub_zero] at h2
    exact (List.getElem?_eq_some_iff.1 h2).1
  rw [Nat.sub_zero] at h2
  simp [Array.getD_eq_getD_getElem?, Array.getElem?_append, ht, h2]
  rw [List.getElem?_eq_getElem ht] at h2
  simpa using h2
/-- The results, some of which lie in variables. -/
def ResW (P : Program) [Tab P] (w : World) : List ResultVar → E → List Value → Prop
  | [], _, vs => vs = []
  | .tmp t :: r, ρ, vs => ∃ v vr, vs = v :: vr ∧ look ρ t = some v ∧ ResW P w r ρ vr
  | .cell b t :: r, ρ, vs => ∃ v vr, vs = v :: vr ∧ (∃ k q cs t', look ρ b = some (.pointer (some ⟨k, q, none⟩)) ∧ tyAgg P t = some false ∧ Blk w k cs t' ∧ cs[q]? = some v) ∧ ResW P w r ρ vr
theorem run_mapW {P : Program} [Tab P] {w : World} {n : Nat} {a : Act} {ρ : E} (hr : Rep n a ρ) : ∀ {l : List ResultVar} {vs : List Value}, ResW P w l ρ vs →
    (l.mapM (m := Sem) fun | .tmp t => pure (a.tmps.getD t undef) | .cell b t => do loadVar t (← asAddr (a.tmps.getD b undef))).run P w = .ok vs w
  | [], vs, h => by have : vs = [] := h; subst this; simp [Sem.run]
  | .tmp t :: r, vs, ⟨v, vr, e, h1, h2⟩ => by
    subst e
    have ih := run_mapW (P := P) (w := w) hr h2
    rw [List.mapM_cons]
    simp only [Sem.run_bind, Sem.run_pure, Result.andThen_ok, ih, hr.slot t v h1]
  | .cell b t :: r, vs, ⟨v, vr, e, ⟨k, q, cs, t', h1, ha, hB, hv⟩, h2⟩ => by
    subst e
    have ih := run_mapW (P := P) (w := w) hr h2
    have hc := hB.cell hv
    have hld : (loadVar t ⟨k, q, none⟩).run P w = .ok v w := by
      simp [loadVar, run_isAgg ha, load, Sem.run, hc]
    rw [List.mapM_cons]
    have has : (asAddr (Value.pointer (some ⟨k, q, none⟩))).run P w = .ok ⟨k, q, none⟩ w := rfl
    simp only [Sem.run_bind, Sem.run_pure, Result.andThen_ok, ih, hr.slot b _ h1, has, hld]
theorem run_resultsW {P : Program} [Tab P] {w : World} {fn : Func} {a : Act} {ρ : E} {vs : List Value} (hr : Rep fn.ntmps a ρ) (h : ResW P w fn.results.toList ρ vs) : (results fn a.tmps).run P w = .ok (resV vs) w := by
  have := run_mapW (P := P) (w := w) hr h
  unfold results
  rw [Array.mapM_eq_mapM_toList]
  have e : (List.toArray <$> fn.results.toList.mapM (m := Sem) fun | .tmp t => pure (a.tmps.getD t undef) | .cell b t => do loadVar t (← asAddr (a.tmps.getD b undef))).run P w = .ok vs.toArray w := by
    rw [← bind_pure_comp]
    simp only [Sem.run_bind, this, Result.andThen_ok, Function.comp, Sem.run_pure]
  rw [Sem.run_bind]
  refine (congrArg (fun r => Result.andThen r _) e).trans ?_
  clear e this h
  match vs with
  | [] => rfl
  | [v] => rfl
  | v :: u :: r => rfl
theorem W.fretW {P : Program} [Tab P] {ds : List Deferred} {k : List It} {ρ : E} {w : World} {fn : Func} {R : Value → World → Prop} {vs : List Value}
    (h : ResW P w fn.results.toList ρ vs) (hR : R (resV vs) w) : W P fn.ntmps ds (.code .ret :: k) (Fin P fn R) ρ w :=
  W.ret ⟨_, fun _ hr => run_resultsW hr h, hR⟩
section
variable {P : Program} [hT : Tab P] {n : Nat} {ds : List Deferred} {Φ : Post} {k : List It} {ρ : E} {w : World} {all : Array Oper} {l : List Oper} {md : Option (List Oper)}
/-- A struct of two fields of one cell, of which the first one is given. -/
theorem EV.bldH {o : Oper} {t : Nat} {x : Operand} {u z0 z1 : Value} (ho : o.op = .build t #[(0, x)])
    (ht : tyD P t = some (.struct [(0, 1), (1, 1)])) (hz : tyZ P t = some (.agg #[z0, z1])) (hx : ev ρ x = some u) (h1 : u.oneCell' = true) : EV P n ρ w o (.agg #[u, z1]) := by
  intro a hr
  obtain ⟨gs, hu, hm⟩ := td_struct (tyD_ok ht)
  have hsz : ∃ f g, gs = #[f, g] ∧ f.offset = 0 ∧ g.offset = 1 ∧ ((P.info? f.type).map (·.size)).getD 0 = 1 ∧ ((P.info? g.type).map (·.size)).getD 0 = 1 := by
    obtain ⟨L⟩ := gs
    rcases L with _ | ⟨f, _ | ⟨g, _ | ⟨h, r⟩⟩⟩
    · simp at hm
    · simp at hm
    · simp at hm; exact ⟨f, g, rfl, hm.1.1, hm.2.1, hm.1.2, hm.2.2⟩
    · simp at hm
  obtain ⟨f, g, rfl, f0, g0, f1, g1⟩ := hsz
  have hs : ∀ t, ((P.info? t).map (·.size)).getD 0 = 1 → (sizeOf t).run P w = .ok 1 w := fun t h => by
    cases hi : P.info? t with
    | none => rw [hi] at h; simp at h
    | some j => rw [hi] at h; simp at h; simp [sizeOf, typeInfo, hi, h]
  have hcs : u.cells = #[u] := by cases u <;> simp_all [Value.oneCell', Value.cells]
  have hzc : (Value.agg #[z0, z1]).cells = #[z0, z1] := rfl
  simp [execOp, ho, hr.ev hx, Instr.build, run_zeroV hz, run_und hu, hs _ f1, hs _ g1, Instr.fill, hzc, hcs, f0, g0]
end
end Go.Proofs.YtcmjlmnfdncajaaGreatDoor.VW
namespace Go.Proofs.YtcmjlmnfdncajaaGreatDoor.VW
open Go Go.RowKit
section
variable {P : Program} [hT : Tab P] {n : Nat} {ds : List Deferred} {Φ : Post} {k : List It} {ρ : E} {w : World} {all : Array Oper} {l : List Oper} {md : Option (List Oper)}
omit hT in
theorem run_eqn {t : Nat} {m : Array (String × TypeId)} (hu : P.underlying t = some (.interface m)) : (Op.equal t .nilIface .nilIface).run P w = .ok true w := by
  have key : ∀ d : Nat, (Op.equalIn (d + 1) t .nilIface .nilIface).run P w = .ok true w := fun d => by simp [Op.equalIn, run_und hu]
  unfold Op.equal
  rw [show Op.maxDepth = 9999 + 1 from rfl]
  exact key 9999
omit hT in
theorem run_eqy {t u : Nat} {v : Value} {m : Array (String × TypeId)} (hu : P.underlying t = some (.interface m)) : (Op.equal t (.iface u v) .nilIface).run P w = .ok false w := by
  have key : ∀ d : Nat, (Op.equalIn (d + 1) t (.iface u v) .nilIface).run P w = .ok false w := fun d => by simp [Op.equalIn, run_und hu]
  unfold Op.equal
  rw [show Op.maxDepth = 9999 + 1 from rfl]
  exact key 9999
/-- x == nil for values of interface type. -/
theorem EV.ifN {o : Oper} {t t' : Nat} {x : Operand} (ho : o.op = .binOp .eql t x (.const .nilIface) t') (ht : tyD P t = some .iface) (hx : ev ρ x = some .nilIface) : EV P n ρ w o (.bool true) := by
  intro c hr
  obtain ⟨m, hu⟩ := td_iface (tyD_ok ht)
  have h1 := run_eqn (w := w) hu
  have hy : c.eval (.const .nilIface) = .nilIface := rfl
  simp only [execOp, ho, hr.ev hx, hy]
  simp [eqGuard, binOp, h1]
theorem EV.ifY {o : Oper} {t t' u : Nat} {x y : Operand} {v : Value} (ho : o.op = .binOp .eql t x y t') (ht : tyD P t = some .iface) (hx : ev ρ x = some (.iface u v)) (hy : ev ρ y = some .nilIface) : EV P n ρ w o (.bool false) := by
  intro c hr
  obtain ⟨m, hu⟩ := td_iface (tyD_ok ht)
  have h1 := run_eqy (w := w) (u := u) (v := v) hu
  simp only [execOp, ho, hr.ev hx, hr.ev hy]
  simp [eqGuard, binOp, h1]
end
end Go.Proofs.YtcmjlmnfdncajaaGreatDoor.VW
/- Slices of two-cell elements: s[q:], and appended. -/
namespace Go.Proofs.YtcmjlmnfdncajaaGreatDoor.VW
open Go Go.RowKit
def pA (p : Value × Nat) : Value := p.1
def pB (p : Value × Nat) : Value := .int .i64 (p.2 : Int)
def slD (A : Option Addr) (m c q : Nat) : Value := .slice (if c = q then A else A.map fun p => p.add (q * 2)) (m - q) (c - q)
theorem R2.slD {S : Nat → Prop} {w : World} {A : Option Addr} {m c q : Nat} {l : List (Value × Nat)} (h : R2 S w (.slice A m c) l) (hq : q ≤ m) : R2 S w (VW.slD A m c q) (l.drop q) := by
  obtain ⟨A2, c2, he, h0, _⟩ := id h
  have hm : m = l.length ∧ c = c2 := by simp only [Value.slice.injEq] at he; exact ⟨he.2.1, he.2.2⟩
  exact h.drop (by omega) (fun hlt => by rw [if_neg (by omega)])
section
variable {P : Program} [hT : Tab P] {n : Nat} {ds : List Deferred} {Φ : Post} {k : List It} {ρ : E} {w : World} {all : Array Oper} {l : List Oper} {md : Option (List Oper)} {s : Nat} {F : World → Prop} {π : List (Nat × Nat)} {L : List Bool}
theorem EV.slP {o : Oper} {t e m c q : Nat} {x y : Operand} {A : Option Addr} (ho : o.op = .slice t x (some y) none none) (ht : tyD P t = some (.slice e)) (hs : tyS P e = some 2) (hx : ev ρ x = some (.slice A m c)) (hy : ev ρ y = some (.int .i64 (q : Int))) (hq : q ≤ m) : EV P n ρ w o (slD A m c q) := by
  intro a hr
  unfold slD
  simp [execOp, ho, hr.ev hx, hr.ev hy, Instr.sliceAt, Instr.slice, Instr.sliceBounds, Instr.sliceBound, asIntOf, run_und (td_slice (tyD_ok ht)), run_sizeOf hs, hq]
/-- A struct of two cells out of a block that stands. -/
theorem z_D2 {o : Oper} {d t b q t' : Nat} {x : Operand} {cs : Array Value} {u v : Value} {w0 : World} {c1 : Bool} (ho : o.op = .load t x := by exact rfl) (hd : o.dst = some d := by exact rfl) (hg : gdB all ρ o.guard = some c1 := by exact rfl) (hc1 : c1 = true := by exact rfl)
    (ht : tyAgg P t = some true := by exact rfl) (hs : tyS P t = some 2 := by exact rfl) (hx : ev ρ x = some (.pointer (some ⟨b, q, none⟩)) := by exact rfl) (hb : Blk w0 b cs t' := by assumption) (hbel : Below w0.heap.size w0 w := by first | assumption | exact Below.refl _ _) (h1 : nth cs.toList q = some u := by exact rfl) (h2 : nth cs.toList (q + 1) = some v := by exact rfl)
    (kk : Ops md P n ds all k Φ l ((d, .agg #[u, v]) :: ρ) w) : Ops md P n ds all k Φ (o :: l) ρ w := by
  have hb' := hb.kp (Kp.of_below (S := fun _ => False) hbel) (fun e => e)
  refine Ops.evG hd hg hc1 (EV.ld2 ho ht hs hx (hb'.cell (by rw [nth_eq] at h1; simpa using h1)) ?_) kk
  rw [add_lit]
  exact hb'.cell (by rw [nth_eq] at h2; simpa using h2)
theorem x_D2 {i d t b q t' : Nat} {o : Oper} {x : Operand} {cs : Array Value} {u v : Value} {w0 : World} {c1 : Bool} (hi : all[i]? = some o := by exact rfl) (ho : o.op = .load t x := by exact rfl) (hd : o.dst = some d := by exact rfl) (hg : gdB all ρ o.guard = some c1 := by exact rfl) (hc1 : c1 = true := by exact rfl)
    (ht : tyAgg P t = some true := by exact rfl) (hs : tyS P t = some 2 := by exact rfl) (hx : ev ρ x = some (.pointer (some ⟨b, q, none⟩)) := by exact rfl) (hb : Blk w0 b cs t' := by assumption) (hF : ∀ w, F w → Below w0.heap.size w0 w := by first | exact fun _ h => h | (intro _ h; exact Below.via (by assumption) h)) (h1 : nth cs.toList q = some u := by exact rfl) (h2 : nth cs.toList (q + 1) = some v := by exact rfl)
    (kk : OrdA P n ds all k Φ s F π (L.set i true) ((d, .agg #[u, v]) :: ρ)) : OrdA P n ds all k Φ s F ((i, 2) :: π) L ρ := by
  refine OrdA.read hi hd hg hc1 (fun w hw => ?_) kk
  have hb' := hb.kp (Kp.of_below (S := fun _ => False) (hF w hw)) (fun e => e)
  refine EV.ld2 ho ht hs hx (hb'.cell (by rw [nth_eq] at h1; simpa using h1)) ?_
  rw [add_lit]
  exact hb'.cell (by rw [nth_eq] at h2; simpa using h2)
/-- append(s, t...), of elements of two cells. -/
theorem Ops.appP {S : Nat → Prop} {w0 : World} {o : Oper} {d t e by' : Nat} {x y : Operand} {v yv z0 z1 : Value} {xs ys : List (Value × Nat)} (ho : o.op = .call { callee := .builtin .append, args := #[x, y], argTypes := #[t, t] }) (hd : o.dst = some d) (hg : o.guard = none)
    (ht : tyD P t = some (.slice e)) (hs : tyS P e = some 2) (hb : tyB P e = some (by' + 1)) (hz : tyZ P e = some (.agg #[z0, z1])) (hx : ev ρ x = some v) (hy : ev ρ y = some yv)
    (hO : OP e pA pB w0 w v xs) (hys : R2 S w yv ys) (h1 : ∀ p, p ∈ ys → p.1.oneCell' = true) (hbytes : (xs.length + ys.length) * (by' + 1) ≤ 140737488355328)
    (hk : ∀ v' w', OP e pA pB w0 w' v' (xs ++ ys) → Kp (fun i => v.ownBlock = some i) w w' → (∀ i, v'.ownBlock = some i → v.ownBlock = some i ∨ w.heap.size ≤ i) → Ops none P n ds all k Φ l ((d, v') :: ρ) w') : Ops none P n ds all k Φ (o :: l) ρ w := by
  have happ : ∀ (xs ys : List (Value × Nat)), fp2 pA pB (xs ++ ys) = fp2 pA pB xs ++ fp2 pA pB ys := fun xs ys => by
    induction xs with
    | nil => rfl
    | cons a r ih => simp only [List.cons_append, fp2, ih]
  have fin : ∀ v' w', w'.ownsRow 0 e 2 v' (xs.length + ys.length) (fp2 pA pB xs ++ fp2 pA pB ys) → Kp (fun i => v.ownBlock = some i) w w' → (∀ i, v'.ownBlock = some i → v.ownBlock = some i ∨ w.heap.size ≤ i) → Ops none P n ds all k Φ l ((d, v') :: ρ) w' := fun v' w' hown k1 hn =>
    hk v' w' ⟨Below.put hO.bel k1 (fun i hi => hO.ge i hi), by rw [happ, List.length_append]; exact hown, fun i hi => by rcases hn i hi with e | e; exact hO.ge i e; have := hO.bel.size; omega⟩ k1 hn
  obtain ⟨A, c, rfl, h0, hc⟩ := hys
  by_cases hp : 0 < ys.length
  · obtain ⟨a, rfl, hS, hcell⟩ := hc hp
    refine Ops.app (sz := 1) ho hd hg ht hs hb hz rfl hx hy hO.own (by rw [fp2_len]) ?_ ?_ hbytes fin
    · intro j u hu
      have hj : j < (fp2 pA pB ys).length := (List.getElem?_eq_some_iff.1 hu).1
      rw [fp2_len] at hj
      obtain ⟨q0, q1⟩ := fp2_get (fa := pA) (fb := pB) ys (j / 2) (by omega)
      obtain ⟨r0, r1⟩ := hcell (j / 2) (by omega)
      by_cases h2 : j % 2 = 0
      · rw [show j / 2 * 2 = j by omega] at q0 r0
        rw [q0] at hu
        rw [r0]; exact hu
      · rw [show j / 2 * 2 + 1 = j by omega] at q1
        rw [q1] at hu
        rw [add_add, show j / 2 * 2 + 1 = j by omega] at r1
        rw [r1]; exact hu
    · intro u hu
      have : ∀ (ys : List (Value × Nat)), (∀ p, p ∈ ys → p.1.oneCell' = true) → ∀ u ∈ fp2 pA pB ys, u.oneCell' = true := fun ys => by
        induction ys with
        | nil => intro _ u hu; simp [fp2] at hu
        | cons a r ih =>
          intro h u hu
          simp only [fp2, List.mem_cons] at hu
          rcases hu with rfl | rfl | hu
          · exact h a (List.mem_cons_self ..)
          · rfl
          · exact ih (fun p hp => h p (List.mem_cons_of_mem _ hp)) u hu
      exact this ys h1 u hu
  · have hy0 : ys = [] := List.eq_nil_of_length_eq_zero (by omega)
    subst hy0
    obtain ⟨f, hi, h2, h3, h4⟩ := tyE_ok hs hb hz
    have hfc : (Builtin.firstCells f.size 0 (.slice A 0 c)).run P w = .ok #[] w := by
      cases A <;> simp [Builtin.firstCells, loadCells, loadCellsFrom]
    have hv' : ∃ B cap, v = .slice B xs.length cap ∧ xs.length ≤ cap := by
      rcases hO.own.2 with ⟨h5, h6⟩ | ⟨g, cap, cur, h5, _, hg, hnc, _⟩
      · exact ⟨none, 0, by rw [h5, h6], by omega⟩
      · exact ⟨_, cap, h5, hnc⟩
    obtain ⟨B, cap, rfl, hcap⟩ := hv'
    refine Ops.val hd hg (fun a hr => ?_) (fin (.slice B xs.length cap) w (by simpa [fp2] using hO.own) (Kp.refl _ _) (fun i hi => .inl hi))
    simp only [List.length_nil] at hy
    cases B with
    | none => simp [execOp, ho, resolve, invoke, builtin, hr.ev hx, hr.ev hy, Builtin.append_, run_und (td_slice (tyD_ok ht)), sizeOf, typeInfo, hi, Builtin.lenOf, hcap, hfc]
    | some b => simp [execOp, ho, resolve, invoke, builtin, hr.ev hx, hr.ev hy, Builtin.append_, run_und (td_slice (tyD_ok ht)), sizeOf, typeInfo, hi, Builtin.lenOf, hcap, hfc, storeCells]
/-- append(s, T{a, b}) in a drawn region, behind its reads. -/
theorem Ord.pushP {i1 i2 : Nat} {o1 o2 : Oper} {d1 d2 t e by' : Nat} {x y : Operand} {z : Value × Nat} {lv z0 z1 : Value} {xs : List (Value × Nat)} {w0 : World}
    (e1 : all[i1]? = some o1) (h1 : o1.op = .buildSlice t 1 #[(0, x)]) (hd1 : o1.dst = some d1) (hg1 : o1.guard = none) (e2 : all[i2]? = some o2) (h2 : o2.op = .call { callee := .builtin .append, args := #[y, .tmp d1], argTypes := #[t, t] }) (hd2 : o2.dst = some d2) (hg2 : o2.guard = none)
    (ht : tyD P t = some (.slice e)) (hs : tyS P e = some 2) (hb : tyB P e = some (by' + 1)) (hz : tyZ P e = some (.agg #[z0, z1])) (hx : ev ρ x = some (.agg #[pA z, pB z])) (hy : ∀ p, ev ((d1, p) :: ρ) y = some lv) (ha : (pA z).oneCell' = true) (hb1 : (pB z).oneCell' = true)
    (hO : OP e pA pB w0 w lv xs) (hbytes : (xs.length + 1) * (by' + 1) ≤ 140737488355328)
    (hk : ∀ lv' p w', OP e pA pB w0 w' lv' (xs ++ [z]) → Kp (fun i => lv.ownBlock = some i) w w' → (∀ i, lv'.ownBlock = some i → lv.ownBlock = some i ∨ w.heap.size ≤ i) → VW.Ord P n ds all k Φ 9999 (fun _ => True) π ((L.set i1 true).set i2 true) ((d2, lv') :: (d1, p) :: ρ) w') : VW.Ord P n ds all k Φ 9999 (fun _ => True) ((i1, 0) :: (i2, 0) :: π) L ρ w :=
  Ord.push2 (w0 := w0) e1 h1 hd1 hg1 e2 h2 hd2 hg2 ht hs hb hz hx hy ha hb1 hO.own hbytes (fun _ _ _ _ _ _ => trivial) trivial (fun i hi => hO.ge i hi) (fun lv' p w' _ hown k1 hn => hk lv' p w' ⟨Below.put hO.bel k1 (fun i hi => hO.ge i hi), by rw [fp2_snoc, List.length_append, List.length_singleton]; exact hown, fun i hi => by rcases hn i hi with e | e; exact hO.ge i e; have := hO.bel.size; omega⟩ k1 hn)
end
end Go.Proofs.YtcmjlmnfdncajaaGreatDoor.VW
