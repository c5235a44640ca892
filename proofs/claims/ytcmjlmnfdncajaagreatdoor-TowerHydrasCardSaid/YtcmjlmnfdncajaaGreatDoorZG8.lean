/- A part of the walk: what this seat's statements share. -/
import Derived.Test.YtcmjlmnfdncajaaGreatDoorZG7
import Derived.Test.YtcmjlmnfdncajaaGreatDoorZG6
set_option linter.unusedVariables false
set_option linter.unusedSimpArgs false
set_option linter.unusedSectionVars false
/- Plain: numbers in a base, bumped, and their ordinals. -/
namespace Go.Proofs.YtcmjlmnfdncajaaGreatDoor.TW
def sumD (b : Nat) (X : Nat → Nat) (m e : Nat) : Nat :=
  if h : 2 ≤ b ∧ 0 < m then m % b * (b + 1) ^ X e + sumD b X (m / b) (e + 1) else 0
termination_by m
decreasing_by exact Nat.div_lt_self h.2 h.1
def bmp (b m : Nat) : Nat := sumD b (fun e => if h : e < m then bmp b e else 0) m 0
termination_by m
def ptO (e : Od) (d : Nat) (acc : Od) : Od := if 0 < d then .cons e d acc else acc
def lifD (b : Nat) (X : Nat → Od) (m e : Nat) (acc : Od) : Od :=
  if h : 2 ≤ b ∧ 0 < m then lifD b X (m / b) (e + 1) (ptO (X e) (m % b) acc) else acc
termination_by m
decreasing_by exact Nat.div_lt_self h.2 h.1
def lif (b m : Nat) : Od := lifD b (fun e => if h : e < m then lif b e else .nil) m 0 .nil
termination_by m
theorem sumD_zero {b : Nat} {X : Nat → Nat} {e : Nat} : sumD b X 0 e = 0 := by rw [sumD]; simp
theorem sumD_pos {b : Nat} {X : Nat → Nat} {m e : Nat} (hb : 2 ≤ b) (hm : 0 < m) : sumD b X m e = m % b * (b + 1) ^ X e + sumD b X (m / b) (e + 1) := by rw [sumD, dif_pos ⟨hb, hm⟩]
theorem lifD_zero {b : Nat} {X : Nat → Od} {e : Nat} {acc : Od} : lifD b X 0 e acc = acc := by rw [lifD]; simp
theorem lifD_pos {b : Nat} {X : Nat → Od} {m e : Nat} {acc : Od} (hb : 2 ≤ b) (hm : 0 < m) : lifD b X m e acc = lifD b X (m / b) (e + 1) (ptO (X e) (m % b) acc) := by rw [lifD, dif_pos ⟨hb, hm⟩]
theorem div_lt {b m : Nat} (hb : 2 ≤ b) (hm : 0 < m) : m / b < m := Nat.div_lt_self hm hb
theorem sumD_congr {b : Nat} (hb : 2 ≤ b) {X Y : Nat → Nat} : ∀ (m e : Nat), (∀ i, e ≤ i → i < e + m → X i = Y i) → sumD b X m e = sumD b Y m e := by
  intro m
  induction m using Nat.strongRecOn with
  | _ m ih =>
  intro e h
  by_cases hm : 0 < m
  · have hd := div_lt hb hm
    rw [sumD_pos hb hm, sumD_pos hb hm, h e (Nat.le_refl _) (by omega), ih _ hd (e + 1) (fun i h1 h2 => h i (by omega) (by omega))]
  · have : m = 0 := by omega
    subst this
    rw [sumD_zero, sumD_zero]
theorem lifD_congr {b : Nat} (hb : 2 ≤ b) {X Y : Nat → Od} : ∀ (m e : Nat) (acc : Od), (∀ i, e ≤ i → i < e + m → X i = Y i) → lifD b X m e acc = lifD b Y m e acc := by
  intro m
  induction m using Nat.strongRecOn with
  | _ m ih =>
  intro e acc h
  by_cases hm : 0 < m
  · have hd := div_lt hb hm
    rw [lifD_pos hb hm, lifD_pos hb hm, h e (Nat.le_refl _) (by omega), ih _ hd (e + 1) _ (fun i h1 h2 => h i (by omega) (by omega))]
  · have : m = 0 := by omega
    subst this
    rw [lifD_zero, lifD_zero]
theorem bmp_eq {b : Nat} (hb : 2 ≤ b) (m : Nat) : bmp b m = sumD b (bmp b) m 0 := by
  rw [bmp]
  exact sumD_congr hb m 0 (fun i _ h => dif_pos (by omega))
theorem lif_eq {b : Nat} (hb : 2 ≤ b) (m : Nat) : lif b m = lifD b (lif b) m 0 .nil := by
  rw [lif]
  exact lifD_congr hb m 0 .nil (fun i _ h => dif_pos (by omega))
theorem bmp_zero {b : Nat} : bmp b 0 = 0 := by rw [bmp]; exact sumD_zero
theorem lif_zero {b : Nat} : lif b 0 = .nil := by rw [lif]; exact lifD_zero
theorem app_assoc : ∀ (a b c : Od), appO (appO a b) c = appO a (appO b c)
  | .nil, b, c => rfl
  | .cons e n r, b, c => by simp only [appO, app_assoc r b c]
theorem lifD_app {b : Nat} (hb : 2 ≤ b) {X : Nat → Od} : ∀ (m e : Nat) (acc : Od), lifD b X m e acc = appO (lifD b X m e .nil) acc := by
  intro m
  induction m using Nat.strongRecOn with
  | _ m ih =>
  intro e acc
  by_cases hm : 0 < m
  · have hd := div_lt hb hm
    rw [lifD_pos hb hm, lifD_pos hb hm, ih _ hd, ih _ hd (e + 1) (ptO _ _ .nil), app_assoc]
    congr 1
    unfold ptO
    split <;> rfl
  · have : m = 0 := by omega
    subst this
    rw [lifD_zero, lifD_zero]; rfl
theorem lifD_step {b : Nat} (hb : 2 ≤ b) {X : Nat → Od} {m e : Nat} (hm : 0 < m) : lifD b X m e .nil = appO (lifD b X (m / b) (e + 1) .nil) (ptO (X e) (m % b) .nil) := by
  rw [lifD_pos hb hm, lifD_app hb]
/-- All exponents are above x. -/
def Abv (x : Od) : Od → Prop
  | .nil => True
  | .cons e c r => ltO x e ∧ Abv x r
theorem Abv.app {x : Od} : ∀ {a b : Od}, Abv x a → Abv x b → Abv x (appO a b)
  | .nil, b, _, h => h
  | .cons e c r, b, h1, h2 => ⟨h1.1, Abv.app h1.2 h2⟩
theorem abv_pt {x e : Od} {d : Nat} (h : 0 < d → ltO x e) : Abv x (ptO e d .nil) := by
  unfold ptO
  split
  · exact ⟨h (by assumption), trivial⟩
  · trivial
theorem lifD_abv {b : Nat} (hb : 2 ≤ b) {X : Nat → Od} {x : Od} : ∀ (m e : Nat), (∀ i, e ≤ i → i < e + m → ltO x (X i)) → Abv x (lifD b X m e .nil) := by
  intro m
  induction m using Nat.strongRecOn with
  | _ m ih =>
  intro e h
  by_cases hm : 0 < m
  · have hd := div_lt hb hm
    rw [lifD_step hb hm]
    exact Abv.app (ih _ hd _ (fun i h1 h2 => h i (by omega) (by omega))) (abv_pt (fun _ => h e (Nat.le_refl _) (by omega)))
  · have : m = 0 := by omega
    subst this
    rw [lifD_zero]; trivial
theorem app_lt {x : Od} {d : Nat} : ∀ {P P' : Od}, ltO P P' → Abv x P' → ltO (appO P (ptO x d .nil)) P'
  | .nil, .nil, h, _ => absurd h lt_nil
  | .nil, .cons e' c' r', h, hA => by
    unfold ptO
    split
    · exact lt_cons.2 (.inl hA.1)
    · exact h
  | .cons e c r, .nil, h, _ => absurd h lt_nil
  | .cons e c r, .cons e' c' r', h, hA => by
    rcases lt_cons.1 h with h1 | ⟨rfl, h1 | ⟨rfl, h1⟩⟩
    · exact lt_cons.2 (.inl h1)
    · exact lt_cons.2 (.inr ⟨rfl, .inl h1⟩)
    · exact lt_cons.2 (.inr ⟨rfl, .inr ⟨rfl, app_lt h1 hA.2⟩⟩)
theorem le_app : ∀ (a b : Od), leO a (appO a b)
  | .nil, .nil => .inl rfl
  | .nil, .cons e c r => .inr rfl
  | .cons e c r, b => leO_cons (le_app r b)
theorem app_lt_app : ∀ {a b c : Od}, ltO b c → ltO (appO a b) (appO a c)
  | .nil, b, c, h => h
  | .cons e n r, b, c, h => lt_cons.2 (.inr ⟨rfl, .inr ⟨rfl, app_lt_app h⟩⟩)
theorem pt_lt {e : Od} {d d' : Nat} (h : d < d') : ltO (ptO e d .nil) (ptO e d' .nil) := by
  unfold ptO
  rw [if_pos (by omega : 0 < d')]
  split
  · exact lt_cons.2 (.inr ⟨rfl, .inl h⟩)
  · rfl
theorem div_mod_lt {b m m' : Nat} (h : m < m') : m / b < m' / b ∨ (m / b = m' / b ∧ m % b < m' % b) := by
  have h1 : m / b ≤ m' / b := Nat.div_le_div_right (Nat.le_of_lt h)
  have h2 := Nat.div_add_mod m b
  have h3 := Nat.div_add_mod m' b
  rcases Nat.lt_or_ge (m / b) (m' / b) with q | q
  · exact .inl q
  · have e : m / b = m' / b := Nat.le_antisymm h1 q
    refine .inr ⟨e, ?_⟩
    rw [e] at h2
    omega
theorem lifD_mono {b : Nat} (hb : 2 ≤ b) {X : Nat → Od} : ∀ (m' m e : Nat), (∀ i j, i < j → j < e + m' → ltO (X i) (X j)) → m < m' → ltO (lifD b X m e .nil) (lifD b X m' e .nil) := by
  intro m'
  induction m' using Nat.strongRecOn with
  | _ m' ih =>
  intro m e hX h
  have hm' : 0 < m' := by omega
  have hd' := div_lt hb hm'
  rw [lifD_step hb hm']
  have e1 : lifD b X m e .nil = appO (lifD b X (m / b) (e + 1) .nil) (ptO (X e) (m % b) .nil) := by
    by_cases hm : 0 < m
    · exact lifD_step hb hm
    · have : m = 0 := by omega
      subst this
      simp [lifD_zero, ptO, appO]
  rw [e1]
  rcases div_mod_lt (b := b) h with q | ⟨q, r⟩
  · have h1 := ih _ hd' (m / b) (e + 1) (fun i j h1 h2 => hX i j h1 (by omega)) q
    refine lt_le (app_lt h1 ?_) (le_app _ _)
    exact lifD_abv hb _ _ (fun i h1 h2 => hX e i (by omega) (by omega))
  · rw [q]
    exact app_lt_app (pt_lt r)
theorem lif_mono {b : Nat} (hb : 2 ≤ b) : ∀ (n m m' : Nat), m' ≤ n → m < m' → ltO (lif b m) (lif b m') := by
  intro n
  induction n using Nat.strongRecOn with
  | _ n ih =>
  intro m m' hn h
  rw [lif_eq hb, lif_eq hb]
  exact lifD_mono hb m' m 0 (fun i j h1 h2 => ih j (by omega) i j (Nat.le_refl _) h1) h
theorem NF_app_pt {x : Od} {d : Nat} (hx : NF x) : ∀ {a : Od}, NF a → Abv x a → NF (appO a (ptO x d .nil))
  | .nil, _, _ => by
    unfold ptO
    split
    · exact ⟨hx, by assumption, trivial, trivial⟩
    · trivial
  | .cons e c r, h, hA => by
    obtain ⟨h1, h0, h2, h3⟩ := h
    have ih := NF_app_pt (d := d) hx h2 hA.2
    refine ⟨h1, h0, ih, ?_⟩
    cases r with
    | nil =>
      unfold ptO
      split
      · exact hA.1
      · exact h3
    | cons e' c' r' => exact h3
theorem lifD_NF {b : Nat} (hb : 2 ≤ b) {X : Nat → Od} : ∀ (m e : Nat), (∀ i j, i < j → j < e + m → ltO (X i) (X j)) → (∀ i, i < e + m → NF (X i)) → NF (lifD b X m e .nil) := by
  intro m
  induction m using Nat.strongRecOn with
  | _ m ih =>
  intro e hX hN
  by_cases hm : 0 < m
  · have hd := div_lt hb hm
    rw [lifD_step hb hm]
    exact NF_app_pt (hN e (by omega)) (ih _ hd _ (fun i j h1 h2 => hX i j h1 (by omega)) (fun i h1 => hN i (by omega))) (lifD_abv hb _ _ (fun i h1 h2 => hX e i (by omega) (by omega)))
  · have : m = 0 := by omega
    subst this
    rw [lifD_zero]; trivial
theorem lif_NF {b : Nat} (hb : 2 ≤ b) : ∀ (n m : Nat), m ≤ n → NF (lif b m) := by
  intro n
  induction n using Nat.strongRecOn with
  | _ n ih =>
  intro m hn
  rw [lif_eq hb]
  exact lifD_NF hb m 0 (fun i j h1 h2 => lif_mono hb j i j (Nat.le_refl _) h1) (fun i h => ih i (by omega) i (Nat.le_refl _))
end Go.Proofs.YtcmjlmnfdncajaaGreatDoor.TW
/- Quotients, rests and products of numbers from 0 on. -/
namespace Go.Proofs.YtcmjlmnfdncajaaGreatDoor.VW
open Go Go.RowKit
theorem wrapN {s : Nat} (h : s ≤ 9223372036854775807) : IntKind.i64.wrap (s : Int) = s := by
  have : (s : Int) % 18446744073709551616 = s := by omega
  simp [IntKind.wrap, IntKind.bits, IntKind.signed, this]
  omega
section
variable {P : Program} [hT : Tab P] {n : Nat} {ds : List Deferred} {Φ : Post} {k : List It} {ρ : E} {w : World} {all : Array Oper} {l : List Oper} {md : Option (List Oper)} {s : Nat} {F : World → Prop} {π : List (Nat × Nat)} {L : List Bool}
omit hT in
theorem EV.remN {o : Oper} {u v : Nat} {t t' : Nat} {x y : Operand} (ho : o.op = .binOp .rem t x y t') (hx : ev ρ x = some (.int .i64 (u : Int))) (hy : ev ρ y = some (.int .i64 (v : Int))) (hv : v ≠ 0) : EV P n ρ w o (.int .i64 ((u % v : Nat) : Int)) := by
  intro a hr
  have hv' : (v : Int) ≠ 0 := by omega
  have e : (u : Int).tmod v = ((u % v : Nat) : Int) := by rw [Int.ofNat_tmod]
  simp only [execOp, ho, hr.ev hx, hr.ev hy]
  simp [eqGuard, binOp, Op.intDiv, hv, go_sem, e]
omit hT in
theorem EV.quoN {o : Oper} {u v : Nat} {t t' : Nat} {x y : Operand} (ho : o.op = .binOp .quo t x y t') (hx : ev ρ x = some (.int .i64 (u : Int))) (hy : ev ρ y = some (.int .i64 (v : Int))) (hv : v ≠ 0) (hu : u ≤ 9223372036854775807) : EV P n ρ w o (.int .i64 ((u / v : Nat) : Int)) := by
  intro a hr
  have hv' : (v : Int) ≠ 0 := by omega
  have e : (u : Int).tdiv v = ((u / v : Nat) : Int) := by rw [Int.ofNat_tdiv]
  have h1 : u / v ≤ u := Nat.div_le_self _ _
  have h2 : IntKind.i64.wrap ((u / v : Nat) : Int) = ((u / v : Nat) : Int) := wrapN (by omega)
  rw [Int.natCast_ediv] at e h2
  simp only [execOp, ho, hr.ev hx, hr.ev hy]
  simp [eqGuard, binOp, Op.intDiv, hv, go_sem, e, h2]
omit hT in
theorem EV.mulN {o : Oper} {u v : Nat} {t t' : Nat} {x y : Operand} (ho : o.op = .binOp .mul t x y t') (hx : ev ρ x = some (.int .i64 (u : Int))) (hy : ev ρ y = some (.int .i64 (v : Int))) (hu : u * v ≤ 9223372036854775807) : EV P n ρ w o (.int .i64 ((u * v : Nat) : Int)) := by
  refine EV.bw ho hx hy ?_
  have h2 : IntKind.i64.wrap ((u * v : Nat) : Int) = ((u * v : Nat) : Int) := wrapN hu
  have h3 : (u : Int) * v = ((u * v : Nat) : Int) := by push_cast; rfl
  simp only [VW.bw, h3, h2]
end
end Go.Proofs.YtcmjlmnfdncajaaGreatDoor.VW
namespace Go.Proofs.YtcmjlmnfdncajaaGreatDoor
open Go Go.RowKit Go.Proofs.YtcmjlmnfdncajaaGreatDoor.VW Go.Proofs.YtcmjlmnfdncajaaGreatDoor.TW
attribute [local irreducible] W Ops OrdA VW.Ord OrdX Wi OpsI OrdF
def cap60 (x : Nat) : Nat := min x 1152921504606846978
theorem cap_pow {b x K : Nat} (hb : 2 ≤ b) (hK : 61 ≤ K) : cap60 (b ^ min x K) = cap60 (b ^ x) := by
  rcases Nat.lt_or_ge x K with h | h
  · rw [Nat.min_eq_left (Nat.le_of_lt h)]
  · rw [Nat.min_eq_right h]
    have h1 : b ^ 61 ≤ b ^ K := Nat.pow_le_pow_right (by omega) hK
    have h2 : b ^ 61 ≤ b ^ x := Nat.pow_le_pow_right (by omega) (by omega)
    have h3 : (2 : Nat) ^ 61 ≤ b ^ 61 := Nat.pow_le_pow_left (by omega) 61
    have h4 : (2 : Nat) ^ 61 = 2305843009213693952 := rfl
    unfold cap60
    omega
set_option maxHeartbeats 1000000 in
theorem power_c {w : World} {b n : Nat} (hb : 2 ≤ b) (hb2 : b ≤ 1000001) (hn : n ≤ 9223372036854775807) :
    Calls Tryz.prog 107 #[.int .i64 (b : Int), .int .i64 (n : Int)] w (Ret fun r w' => r = .int .i64 (cap60 (b ^ n) : Nat) ∧ w' = w) := by
  refine calls_W (vs := [_, _]) Tryz.func107 rfl (by kernel_rfl) rfl ?_
  (repeat (first | with_reducible refine W.seq ?_ | with_reducible refine Ops.nil ?_ | with_reducible refine W.region ?_ | refine z_p (kk := ?_) | with_reducible refine W.block ?_ | refine z_m (kk := ?_)))
  rw [show (min (n : Int) 61) = ((min n 61 : Nat) : Int) by omega]
  refine W.loop (fun m ρ w1 => ∃ (i out : Nat), m = min n 61 - i ∧ i ≤ min n 61 ∧ out = b ^ i ∧ out ≤ 1152921504606846977 ∧ ρ = [(0, .int .i64 (b : Int)), (5, .int .i64 (out : Int)), (7, .int .i64 ((min n 61 : Nat) : Int)), (8, .int .i64 (i : Int))] ∧ w1 = w)
    ⟨_, _, ⟨0, 1, rfl, Nat.zero_le _, rfl, by omega, rfl, rfl⟩, (by repeat (first | exact trivial | refine And.intro rfl ?_))⟩ ?_
  rintro m ρ w1 ⟨i, out, rfl, hi, hout, hle, rfl, rfl⟩
  (repeat (first | with_reducible refine W.seq ?_ | with_reducible refine Ops.nil ?_ | with_reducible refine W.region ?_ | refine z_p (kk := ?_)))
  (first | refine W.condD rfl (fun hc => ?_) (fun hc => ?_) | refine W.condE rfl (fun hc => ?_) (fun hc => ?_) | refine W.condN rfl (fun hc => ?_) (fun hc => ?_) | refine W.cond rfl (fun hc => ?_) (fun hc => ?_))
  · have hil : i < min n 61 := by omega
    have hpw : b ^ (i + 1) ≤ b ^ n := Nat.pow_le_pow_right (by omega) (by omega)
    have hps : b ^ (i + 1) = out * b := by rw [Nat.pow_succ, hout]
    (repeat (first | with_reducible refine W.seq ?_ | with_reducible refine W.region ?_ | refine z_p (kk := ?_) | with_reducible refine W.skip ?_ | with_reducible refine W.block ?_))
    refine z_ev (EV.quoN (u := 1152921504606846977) (v := b) rfl rfl rfl (by omega) (by omega)) (kk := ?_)
    (repeat (first | with_reducible refine Ops.nil ?_ | refine z_p (kk := ?_)))
    have hdiv := Nat.div_lt_iff_lt_mul (x := 1152921504606846977) (y := out) (k := b) (by omega)
    (first | refine W.condD rfl (fun hc => ?_) (fun hc => ?_) | refine W.condE rfl (fun hc => ?_) (fun hc => ?_) | refine W.condN rfl (fun hc => ?_) (fun hc => ?_) | refine W.cond rfl (fun hc => ?_) (fun hc => ?_))
    · have h1 : 1152921504606846977 / b < out := by omega
      rw [hdiv] at h1
      (repeat (first | with_reducible refine W.seq ?_ | with_reducible refine Ops.nil ?_ | with_reducible refine W.region ?_ | refine z_p (kk := ?_)))
      refine W.fret rfl ⟨?_, rfl⟩
      rw [show cap60 (b ^ n) = 1152921504606846978 by unfold cap60; omega]; rfl
    · have h1 : ¬ 1152921504606846977 / b < out := by omega
      rw [hdiv] at h1
      (repeat (first | with_reducible refine Ops.nil ?_ | with_reducible refine W.region ?_ | refine z_p (kk := ?_) | refine z_a (kk := ?_) | with_reducible refine W.skip ?_ | with_reducible refine W.endb ?_))
      rw [show (out : Int) * b = ((out * b : Nat) : Int) by push_cast; rfl]
      exact W.endl ⟨_, _, ⟨⟨i + 1, out * b, rfl, by omega, hps.symm, by omega, rfl, rfl⟩, by omega⟩, (by repeat (first | exact trivial | refine And.intro rfl ?_))⟩
  · have hil : i = min n 61 := by omega
    (repeat (first | with_reducible refine W.seq ?_ | with_reducible refine Ops.nil ?_ | with_reducible refine W.region ?_ | refine z_p (kk := ?_) | refine W.exit rfl ?_))
    refine W.fret rfl ⟨?_, rfl⟩
    have h61 : n ≤ 61 := by
      apply Classical.byContradiction
      intro h
      have h1 : i = 61 := by omega
      have h2 : (2 : Nat) ^ 61 ≤ b ^ 61 := Nat.pow_le_pow_left hb 61
      rw [h1] at hout
      have h3 : (2 : Nat) ^ 61 = 2305843009213693952 := rfl
      omega
    have h1 : i = n := by omega
    subst h1
    rw [show cap60 (b ^ i) = out by unfold cap60; omega]; rfl
set_option maxHeartbeats 2000000 in
theorem bumped_c : ∀ (k : Nat) {w : World} {b m : Nat}, m ≤ k → 2 ≤ b → b ≤ 1000000 → m ≤ 4611686018427387904 →
    Calls Tryz.prog 69 #[.int .i64 (m : Int), .int .i64 (b : Int)] w (Ret fun r w' => r = .int .i64 (cap60 (bmp b m) : Nat) ∧ w' = w) := by
  intro k
  induction k using Nat.strongRecOn with
  | _ k ih =>
  intro w b m0 hmk hb hb2 hm62
  have htot := bmp_eq hb m0
  refine calls_W (vs := [_, _]) Tryz.func69 rfl (by kernel_rfl) rfl ?_
  (repeat (first | with_reducible refine W.seq ?_ | with_reducible refine Ops.nil ?_ | with_reducible refine W.region ?_ | refine z_p (kk := ?_) | with_reducible refine W.block ?_))
  refine W.loop (fun z ρ w1 => ∃ (m e out : Nat), z = m ∧ m + e ≤ m0 ∧ bmp b m0 = out + sumD b (bmp b) m e ∧ out ≤ 1152921504606846977 ∧ ρ = [(0, .int .i64 (m : Int)), (1, .int .i64 (b : Int)), (5, .int .i64 (out : Int)), (6, .int .i64 (e : Int))] ∧ w1 = w)
    ⟨_, _, ⟨m0, 0, 0, rfl, Nat.le_refl _, by omega, by omega, rfl, rfl⟩, (by repeat (first | exact trivial | refine And.intro rfl ?_))⟩ ?_
  rintro m ρ w1 ⟨_, e, out, rfl, hme, heq, hout, rfl, rfl⟩
  (repeat (first | with_reducible refine W.seq ?_ | with_reducible refine Ops.nil ?_ | with_reducible refine W.region ?_ | refine z_p (kk := ?_)))
  (first | refine W.condD rfl (fun hc => ?_) (fun hc => ?_) | refine W.condE rfl (fun hc => ?_) (fun hc => ?_) | refine W.condN rfl (fun hc => ?_) (fun hc => ?_) | refine W.cond rfl (fun hc => ?_) (fun hc => ?_))
  · have hm : 0 < m := by omega
    have hd := div_lt hb hm
    rw [sumD_pos hb hm] at heq
    have hrec : Calls Tryz.prog 69 #[.int .i64 (e : Int), .int .i64 (b : Int)] w1 (Ret fun r w' => r = .int .i64 (cap60 (bmp b e) : Nat) ∧ w' = w1) := ih e (by omega) (Nat.le_refl _) hb hb2 (by omega)
    have hcap : cap60 (bmp b e) ≤ 1152921504606846978 := by unfold cap60; omega
    have hpow := power_c (w := w1) (b := b + 1) (n := cap60 (bmp b e)) (by omega) (by omega) (by omega)
    have hpe : cap60 ((b + 1) ^ cap60 (bmp b e)) = cap60 ((b + 1) ^ bmp b e) := cap_pow (by omega) (by omega)
    rw [hpe] at hpow
    generalize hP : (b + 1) ^ bmp b e = P at *
    (repeat (first | with_reducible refine W.seq ?_ | with_reducible refine W.region ?_ | refine z_p (kk := ?_) | refine z_a (kk := ?_) | with_reducible refine W.skip ?_ | with_reducible refine W.block ?_))
    refine Ops.callS rfl rfl rfl rfl rfl hrec ?_
    rw [show ((b : Int) + 1) = ((b + 1 : Nat) : Int) by omega]
    refine Ops.callS rfl rfl rfl rfl rfl hpow ?_
    (repeat (first | with_reducible refine W.seq ?_ | with_reducible refine Ops.nil ?_ | with_reducible refine W.region ?_ | refine z_p (kk := ?_)))
    refine z_ev (EV.remN rfl rfl rfl (by omega)) (kk := ?_)
    (repeat (first | with_reducible refine W.seq ?_ | with_reducible refine Ops.nil ?_ | with_reducible refine W.region ?_ | refine z_p (kk := ?_)))
    have hml := Nat.mod_lt m (show b > 0 by omega)
    (first | refine W.condD rfl (fun hc => ?_) (fun hc => ?_) | refine W.condE rfl (fun hc => ?_) (fun hc => ?_) | refine W.condN rfl (fun hc => ?_) (fun hc => ?_) | refine W.cond rfl (fun hc => ?_) (fun hc => ?_))
    · have hd0 : 0 < m % b := by omega
      generalize hD : m % b = D at *
      have hC : cap60 P ≤ 1152921504606846978 := by unfold cap60; omega
      have hq : 1152921504606846977 / D < cap60 P ↔ 1152921504606846977 < cap60 P * D := Nat.div_lt_iff_lt_mul hd0
      (repeat (first | with_reducible refine W.seq ?_ | with_reducible refine W.region ?_ | refine z_p (kk := ?_)))
      have hDP : D * P = P * D := Nat.mul_comm _ _
      have hDP1 : P ≤ P * D := Nat.le_mul_of_pos_right _ hd0
      have hDC : D * cap60 P = cap60 P * D := Nat.mul_comm _ _
      by_cases h1 : 1152921504606846978 ≤ cap60 P
      · have hP1 : 1152921504606846978 ≤ P := by unfold cap60 at h1; omega
        (repeat (first | with_reducible refine Ops.nil ?_ | refine z_p (kk := ?_) | refine z_n (kk := ?_) | refine z_g (kk := ?_)))
        refine W.condT rfl (by first | rfl | assumption | (simp only [bnf] <;> omega) | (simp only [*, bnf]; done) | fail) ?_
        (repeat (first | with_reducible refine W.seq ?_ | with_reducible refine Ops.nil ?_ | with_reducible refine W.region ?_ | refine z_p (kk := ?_)))
        refine W.fret rfl ⟨?_, rfl⟩
        rw [show cap60 (bmp b m0) = 1152921504606846978 by unfold cap60; omega]; rfl
      · have hP1 : cap60 P = P := by unfold cap60 at h1 ⊢; omega
        rw [hP1] at h1 hq hDC ⊢
        (repeat (first | refine z_p (kk := ?_) | refine z_y (kk := ?_) | refine z_h (kk := ?_)))
        refine z_ev (EV.quoN (u := 1152921504606846977) (v := D) rfl rfl rfl (by omega) (by omega)) (kk := ?_)
        by_cases h2 : 1152921504606846977 / D < P
        · have h2' := hq.1 h2
          (repeat (first | with_reducible refine Ops.nil ?_ | refine z_p (kk := ?_) | refine z_y (kk := ?_) | refine z_n (kk := ?_) | refine z_g (kk := ?_)))
          refine W.condT rfl (by first | rfl | assumption | (simp only [bnf] <;> omega) | (simp only [*, bnf]; done) | fail) ?_
          (repeat (first | with_reducible refine W.seq ?_ | with_reducible refine Ops.nil ?_ | with_reducible refine W.region ?_ | refine z_p (kk := ?_)))
          refine W.fret rfl ⟨?_, rfl⟩
          rw [show cap60 (bmp b m0) = 1152921504606846978 by unfold cap60; omega]; rfl
        · have h2' : ¬ 1152921504606846977 < P * D := fun h => h2 (hq.2 h)
          have h2'' : (D : Int) * P ≤ 1152921504606846977 := by
            have : D * P ≤ 1152921504606846977 := by omega
            rw [← Int.natCast_mul]; omega
          have h3' : (0 : Int) ≤ (D : Int) * P := by rw [← Int.natCast_mul]; omega
          clear htot hDC hDP hDP1 hP hq hP1
          (repeat (first | with_reducible refine Ops.nil ?_ | refine z_p (kk := ?_) | refine z_a (kk := ?_) | refine z_y (kk := ?_) | refine z_h (kk := ?_)))
          have hDP : D * P = P * D := Nat.mul_comm _ _
          (first | refine W.condD rfl (fun hc => ?_) (fun hc => ?_) | refine W.condE rfl (fun hc => ?_) (fun hc => ?_) | refine W.condN rfl (fun hc => ?_) (fun hc => ?_) | refine W.cond rfl (fun hc => ?_) (fun hc => ?_))
          · (repeat (first | with_reducible refine W.seq ?_ | with_reducible refine Ops.nil ?_ | with_reducible refine W.region ?_ | refine z_p (kk := ?_)))
            refine W.fret rfl ⟨?_, rfl⟩
            rw [show cap60 (bmp b m0) = 1152921504606846978 by unfold cap60; omega]; rfl
          · clear hDP
            (repeat (first | with_reducible refine Ops.nil ?_ | with_reducible refine W.region ?_ | refine z_p (kk := ?_) | refine z_a (kk := ?_) | with_reducible refine W.skip ?_))
            have hDP : D * P = P * D := Nat.mul_comm _ _
            refine z_ev (EV.quoN rfl rfl rfl (by omega) (by omega)) (kk := ?_)
            (repeat (first | with_reducible refine Ops.nil ?_ | with_reducible refine W.region ?_ | refine z_p (kk := ?_) | refine z_a (kk := ?_) | with_reducible refine W.endb ?_))
            have h4' : ((D * P : Nat) : Int) = (D : Int) * P := by push_cast; rfl
            rw [← h4', show ((out : Int) + ((D * P : Nat) : Int)) = ((out + D * P : Nat) : Int) by omega]
            exact W.endl ⟨_, _, ⟨⟨m / b, e + 1, out + D * P, rfl, by omega, by omega, by omega, rfl, rfl⟩, by omega⟩, (by repeat (first | exact trivial | refine And.intro rfl ?_))⟩
    · have hD : m % b = 0 := by omega
      rw [hD, Nat.zero_mul, Nat.zero_add] at heq
      (repeat (first | with_reducible refine W.region ?_ | refine z_p (kk := ?_) | with_reducible refine W.skip ?_))
      refine z_ev (EV.quoN rfl rfl rfl (by omega) (by omega)) (kk := ?_)
      (repeat (first | with_reducible refine Ops.nil ?_ | with_reducible refine W.region ?_ | refine z_p (kk := ?_) | refine z_a (kk := ?_) | with_reducible refine W.endb ?_))
      exact W.endl ⟨_, _, ⟨⟨m / b, e + 1, out, rfl, by omega, heq, hout, rfl, rfl⟩, by omega⟩, (by repeat (first | exact trivial | refine And.intro rfl ?_))⟩
  · have hm : m = 0 := by omega
    subst hm
    rw [sumD_zero] at heq
    (repeat (first | with_reducible refine W.seq ?_ | with_reducible refine Ops.nil ?_ | with_reducible refine W.region ?_ | refine z_p (kk := ?_) | refine W.exit rfl ?_))
    refine W.fret rfl ⟨?_, rfl⟩
    rw [show cap60 (bmp b m0) = out by unfold cap60; omega]; rfl
end Go.Proofs.YtcmjlmnfdncajaaGreatDoor
/- Plain: the sizes of lifted numbers; bumping keeps the ordinal. -/
namespace Go.Proofs.YtcmjlmnfdncajaaGreatDoor.TW
theorem sz_pt {e : Od} {d : Nat} : szO (ptO e d .nil) ≤ 1 + szO e := by
  unfold ptO
  split
  · simp only [szO]; omega
  · simp only [szO]; omega
theorem lifD_sz {b : Nat} (hb : 2 ≤ b) {X : Nat → Od} {K : Nat} : ∀ (k m e : Nat), m < 2 ^ k → (∀ i, e ≤ i → i < e + k → 1 + szO (X i) ≤ K) → szO (lifD b X m e .nil) ≤ k * K
  | 0, m, e, h, _ => by
    have : m = 0 := by simpa using h
    subst this
    rw [lifD_zero]; simp [szO]
  | k + 1, m, e, h, hX => by
    by_cases hm : 0 < m
    · have h2 : m / b < 2 ^ k := by
        have h3 : m / b ≤ m / 2 := Nat.div_le_div_left hb (by omega)
        rw [Nat.pow_succ] at h
        omega
      have ih := lifD_sz hb k (m / b) (e + 1) h2 (fun i h1 h3 => hX i (by omega) (by omega))
      have h4 := hX e (Nat.le_refl _) (by omega)
      have h5 := sz_pt (e := X e) (d := m % b)
      rw [lifD_step hb hm, szO_app, Nat.succ_mul]
      omega
    · have : m = 0 := by omega
      subst this
      rw [lifD_zero]; simp [szO]
theorem lif_sz {b : Nat} (hb : 2 ≤ b) {K k m : Nat} (h : m < 2 ^ k) (hX : ∀ i, i < k → 1 + szO (lif b i) ≤ K) : szO (lif b m) ≤ k * K := by
  rw [lif_eq hb]
  exact lifD_sz hb k m 0 h (fun i _ h2 => hX i (by omega))
theorem lif_sz62 {b m : Nat} (hb : 2 ≤ b) (h : m < 2 ^ 63) : szO (lif b m) ≤ 10000 := by
  have h0 : ∀ i, i < 1 → szO (lif b i) ≤ 0 := fun i hi => by
    have : i = 0 := by omega
    subst this
    rw [lif_zero]; exact Nat.le_refl _
  have h1 : ∀ i, i < 2 → szO (lif b i) ≤ 1 := fun i hi => lif_sz hb (K := 1) (k := 1) (by omega) (fun j hj => by have := h0 j hj; omega)
  have h2 : ∀ i, i < 4 → szO (lif b i) ≤ 4 := fun i hi => lif_sz hb (K := 2) (k := 2) (by omega) (fun j hj => by have := h1 j hj; omega)
  have h3 : ∀ i, i < 16 → szO (lif b i) ≤ 20 := fun i hi => lif_sz hb (K := 5) (k := 4) (by omega) (fun j hj => by have := h2 j hj; omega)
  have h4 : ∀ i, i < 65536 → szO (lif b i) ≤ 336 := fun i hi => lif_sz hb (K := 21) (k := 16) (by omega) (fun j hj => by have := h3 j hj; omega)
  have := lif_sz hb (K := 101) (k := 63) (m := m) h (fun j hj => by
    have := lif_sz hb (K := 16) (k := 6) (m := j) (by omega) (fun i hi => by have := lif_sz hb (K := 5) (k := 3) (m := i) (by omega) (fun q hq => by have := h2 q (by omega); omega); omega)
    omega)
  omega
theorem most_app : ∀ (a b : Od), mostO (appO a b) = max (mostO a) (mostO b)
  | .nil, b => by simp [appO, mostO]
  | .cons e c r, b => by simp only [appO, mostO, most_app r b]; omega
theorem lifD_most {b : Nat} (hb : 2 ≤ b) {X : Nat → Od} : ∀ (m e : Nat), (∀ i, e ≤ i → i < e + m → mostO (X i) < b) → mostO (lifD b X m e .nil) < b := by
  intro m
  induction m using Nat.strongRecOn with
  | _ m ih =>
  intro e h
  by_cases hm : 0 < m
  · have hd := div_lt hb hm
    have h1 := ih _ hd (e + 1) (fun i h1 h2 => h i (by omega) (by omega))
    have h2 := h e (Nat.le_refl _) (by omega)
    have h3 := Nat.mod_lt m (show b > 0 by omega)
    rw [lifD_step hb hm, most_app]
    unfold ptO
    split
    · simp only [mostO]; omega
    · simp only [mostO]; omega
  · have : m = 0 := by omega
    subst this
    rw [lifD_zero]; simp only [mostO]; omega
theorem lif_most {b : Nat} (hb : 2 ≤ b) : ∀ (n m : Nat), m ≤ n → mostO (lif b m) < b := by
  intro n
  induction n using Nat.strongRecOn with
  | _ n ih =>
  intro m hn
  rw [lif_eq hb]
  exact lifD_most hb m 0 (fun i _ h => ih i (by omega) i (Nat.le_refl _))
theorem two_le {b m : Nat} (hb : 2 ≤ b) (h : m / b ≠ 0) : 2 ≤ m := by
  apply Classical.byContradiction
  intro hn
  exact h (Nat.div_eq_of_lt (by omega))
/-- Numbers that are bumped: the positions grow. -/
theorem sumD_dvd {b : Nat} (hb : 2 ≤ b) {X : Nat → Nat} : ∀ (m e : Nat), (∀ i j, i < j → j < e + m → X i < X j) → (b + 1) ^ X e ∣ sumD b X m e := by
  intro m
  induction m using Nat.strongRecOn with
  | _ m ih =>
  intro e hX
  by_cases hm : 0 < m
  · have hd := div_lt hb hm
    rw [sumD_pos hb hm]
    refine Nat.dvd_add (Nat.dvd_mul_left _ _) ?_
    by_cases h0 : m / b = 0
    · rw [h0, sumD_zero]; exact Nat.dvd_zero _
    · have h1 := ih _ hd (e + 1) (fun i j h1 h2 => hX i j h1 (by omega))
      have hm2 := two_le hb h0
      have h2 := hX e (e + 1) (by omega) (by omega)
      exact Nat.dvd_trans (Nat.pow_dvd_pow _ (Nat.le_of_lt h2)) h1
  · have : m = 0 := by omega
    subst this
    rw [sumD_zero]; exact Nat.dvd_zero _
theorem sumD_mono {b : Nat} (hb : 2 ≤ b) {X : Nat → Nat} : ∀ (m' m e : Nat), (∀ i j, i < j → j < e + m' → X i < X j) → m < m' → sumD b X m e < sumD b X m' e := by
  intro m'
  induction m' using Nat.strongRecOn with
  | _ m' ih =>
  intro m e hX h
  have hm' : 0 < m' := by omega
  have hd' := div_lt hb hm'
  have e1 : sumD b X m e = m % b * (b + 1) ^ X e + sumD b X (m / b) (e + 1) := by
    by_cases hm : 0 < m
    · exact sumD_pos hb hm
    · have : m = 0 := by omega
      subst this
      simp [sumD_zero]
  rw [sumD_pos hb hm', e1]
  have hpos : 0 < (b + 1) ^ X e := Nat.pow_pos (by omega)
  rcases div_mod_lt (b := b) h with q | ⟨q, r⟩
  · have h1 := ih _ hd' (m / b) (e + 1) (fun i j h1 h2 => hX i j h1 (by omega)) q
    have hm2 := two_le (m := m') hb (fun h0 => by rw [h0] at q; exact absurd q (Nat.not_lt_zero _))
    have h2 := hX e (e + 1) (by omega) (by omega)
    obtain ⟨u, hu⟩ := sumD_dvd hb (m / b) (e + 1) (fun i j h1 h2 => hX i j h1 (by omega))
    obtain ⟨v, hv⟩ := sumD_dvd hb (m' / b) (e + 1) (fun i j h1 h2 => hX i j h1 (by omega))
    have hP : (b + 1) ^ X e * (b + 1) ≤ (b + 1) ^ X (e + 1) := by rw [← Nat.pow_succ]; exact Nat.pow_le_pow_right (by omega) (by omega)
    have h3 := Nat.mod_lt m (show b > 0 by omega)
    have h4 : m % b * (b + 1) ^ X e ≤ b * (b + 1) ^ X e := Nat.mul_le_mul_right _ (Nat.le_of_lt h3)
    rw [Nat.mul_succ, Nat.mul_comm] at hP
    rw [hu, hv] at h1 ⊢
    have huv : u < v := Nat.lt_of_mul_lt_mul_left h1
    have h5 : (b + 1) ^ X (e + 1) * (u + 1) ≤ (b + 1) ^ X (e + 1) * v := Nat.mul_le_mul_left _ huv
    rw [Nat.mul_succ] at h5
    omega
  · rw [q]
    have := Nat.mul_lt_mul_of_pos_right r hpos
    omega
theorem bmp_mono {b : Nat} (hb : 2 ≤ b) : ∀ (n m m' : Nat), m' ≤ n → m < m' → bmp b m < bmp b m' := by
  intro n
  induction n using Nat.strongRecOn with
  | _ n ih =>
  intro m m' hn h
  rw [bmp_eq hb m, bmp_eq hb m']
  exact sumD_mono hb m' m 0 (fun i j h1 h2 => ih j (by omega) i j (Nat.le_refl _) h1) h
theorem le_bmp {b : Nat} (hb : 2 ≤ b) : ∀ m, m ≤ bmp b m
  | 0 => Nat.zero_le _
  | m + 1 => by
    have h1 := le_bmp hb m
    have h2 := bmp_mono hb (m + 1) m (m + 1) (Nat.le_refl _) (by omega)
    omega
/-- The digits of a number times a power. -/
theorem lifD_shift {b : Nat} (hb : 2 ≤ b) {X : Nat → Od} : ∀ (k n e : Nat), lifD b X (n * b ^ k) e .nil = lifD b X n (e + k) .nil
  | 0, n, e => by simp
  | k + 1, n, e => by
    by_cases hn : 0 < n
    · have hp : 0 < n * b ^ (k + 1) := Nat.mul_pos hn (Nat.pow_pos (by omega))
      have h1 : n * b ^ (k + 1) = n * b ^ k * b := by rw [Nat.pow_succ, Nat.mul_assoc]
      rw [lifD_step hb hp, h1, Nat.mul_div_cancel _ (by omega), Nat.mul_mod_left, lifD_shift hb k n (e + 1), show e + 1 + k = e + (k + 1) by omega]
      simp [ptO, appO_nil]
    · have : n = 0 := by omega
      subst this
      simp [lifD_zero]
theorem lif_sum {b : Nat} (hb : 2 ≤ b) {X : Nat → Nat} {Y Z : Nat → Od} : ∀ (m e : Nat), (∀ i j, i < j → j < e + m → X i < X j) → (∀ i, i < e + m → Y (X i) = Z i) → lifD (b + 1) Y (sumD b X m e) 0 .nil = lifD b Z m e .nil := by
  intro m
  induction m using Nat.strongRecOn with
  | _ m ih =>
  intro e hX hY
  by_cases hm : 0 < m
  · have hd := div_lt hb hm
    have h1 := ih _ hd (e + 1) (fun i j h1 h2 => hX i j h1 (by omega)) (fun i h => hY i (by omega))
    have h3 := Nat.mod_lt m (show b > 0 by omega)
    rw [lifD_step hb hm, ← h1, sumD_pos hb hm]
    -- what is above is a multiple of the next power
    obtain ⟨u, hu⟩ : ∃ u, sumD b X (m / b) (e + 1) = u * (b + 1) * (b + 1) ^ X e := by
      by_cases h0 : m / b = 0
      · exact ⟨0, by rw [h0, sumD_zero]; simp⟩
      · obtain ⟨v, hv⟩ := sumD_dvd hb (m / b) (e + 1) (fun i j h1 h2 => hX i j h1 (by omega))
        have hm2 := two_le hb h0
        have h2 := hX e (e + 1) (by omega) (by omega)
        refine ⟨v * (b + 1) ^ (X (e + 1) - X e - 1), ?_⟩
        rw [hv, show X (e + 1) = X (e + 1) - X e - 1 + 1 + X e by omega, Nat.pow_add, Nat.pow_succ]
        simp only [Nat.mul_comm, Nat.mul_left_comm, Nat.mul_assoc, Nat.add_sub_cancel]
    have e1 : m % b * (b + 1) ^ X e + u * (b + 1) * (b + 1) ^ X e = (u * (b + 1) + m % b) * (b + 1) ^ X e := by rw [Nat.add_mul]; omega
    have e2 : u * (b + 1) * (b + 1) ^ X e = u * (b + 1) ^ (X e + 1) := by rw [Nat.pow_succ]; simp only [Nat.mul_comm, Nat.mul_left_comm, Nat.mul_assoc]
    rw [hu, e1, e2, lifD_shift (by omega), lifD_shift (by omega), Nat.zero_add, Nat.zero_add]
    by_cases hz : 0 < u * (b + 1) + m % b
    · have hmd : (u * (b + 1) + m % b) % (b + 1) = m % b := by rw [Nat.add_comm, Nat.add_mul_mod_self_right]; exact Nat.mod_eq_of_lt (by omega)
      have hdv : (u * (b + 1) + m % b) / (b + 1) = u := by rw [Nat.add_comm, Nat.add_mul_div_right _ _ (by omega), Nat.div_eq_of_lt (by omega)]; omega
      rw [lifD_step (by omega) hz, hmd, hdv, hY e (by omega)]
    · have hu0 : u = 0 := by
        apply Classical.byContradiction
        intro h
        have := Nat.mul_pos (Nat.pos_of_ne_zero h) (show 0 < b + 1 by omega)
        omega
      have hm0 : m % b = 0 := by omega
      subst hu0
      rw [hm0]
      simp [lifD_zero, ptO, appO_nil]
  · have : m = 0 := by omega
    subst this
    rw [sumD_zero, lifD_zero, lifD_zero]
theorem lif_bmp {b : Nat} (hb : 2 ≤ b) : ∀ (n m : Nat), m ≤ n → lif (b + 1) (bmp b m) = lif b m := by
  intro n
  induction n using Nat.strongRecOn with
  | _ n ih =>
  intro m hn
  rw [lif_eq (by omega), bmp_eq hb m, lif_eq hb m]
  exact lif_sum hb m 0 (fun i j h1 h2 => bmp_mono hb j i j (Nat.le_refl _) h1) (fun i h => ih i (by omega) i (Nat.le_refl _))
theorem bmp_small {b m : Nat} (hb : 2 ≤ b) (h : m < b) : bmp b m = m := by
  rw [bmp_eq hb]
  by_cases hm : 0 < m
  · rw [sumD_pos hb hm, bmp_zero, Nat.mod_eq_of_lt h, Nat.div_eq_of_lt h, sumD_zero, Nat.pow_zero]; omega
  · have : m = 0 := by omega
    subst this
    exact sumD_zero
theorem lif_small {b m : Nat} (hb : 2 ≤ b) (h : m < b) : lif b m = ptO .nil m .nil := by
  rw [lif_eq hb]
  by_cases hm : 0 < m
  · rw [lifD_pos hb hm, lif_zero, Nat.mod_eq_of_lt h, Nat.div_eq_of_lt h, lifD_zero]
  · have : m = 0 := by omega
    subst this
    rw [lifD_zero]; rfl
end Go.Proofs.YtcmjlmnfdncajaaGreatDoor.TW
namespace Go.Proofs.YtcmjlmnfdncajaaGreatDoor
open Go Go.RowKit Go.Proofs.YtcmjlmnfdncajaaGreatDoor.VW Go.Proofs.YtcmjlmnfdncajaaGreatDoor.TW
attribute [local irreducible] W Ops OrdA VW.Ord OrdX Wi OpsI OrdF
/-- Turned around up to a place, from both ends. -/
theorem rev_step {α : Type} [Inhabited α] {l0 l : List α} {i : Nat} (hl : l.length = l0.length) (hi : i < l0.length - 1 - i) (h : ∀ k, k < l0.length → l.getD k default = if k < i ∨ l0.length ≤ k + i then l0.getD (l0.length - 1 - k) default else l0.getD k default) :
    ∀ k, k < l0.length → ((l.set i (l.getD (l0.length - 1 - i) default)).set (l0.length - 1 - i) (l.getD i default)).getD k default = if k < i + 1 ∨ l0.length ≤ k + (i + 1) then l0.getD (l0.length - 1 - k) default else l0.getD k default := fun k hk => by
  have h1 := h i (by omega)
  have h2 := h (l0.length - 1 - i) (by omega)
  have h3 := h k hk
  rw [if_neg (by omega)] at h1 h2
  by_cases e1 : k = l0.length - 1 - i
  · subst e1
    rw [if_pos (by omega), List.getD_eq_getElem?_getD, List.getElem?_set_self (by rw [List.length_set]; omega), show l0.length - 1 - (l0.length - 1 - i) = i by omega]
    exact h1
  · rw [List.getD_eq_getElem?_getD, List.getElem?_set_ne (fun e => e1 e.symm)]
    by_cases e2 : k = i
    · subst e2
      rw [if_pos (by omega), List.getElem?_set_self (by omega)]
      exact h2
    · rw [List.getElem?_set_ne (fun e => e2 e.symm), ← List.getD_eq_getElem?_getD, h3]
      by_cases e3 : k < i ∨ l0.length ≤ k + i
      · rw [if_pos e3, if_pos (by omega)]
      · rw [if_neg e3, if_neg (by omega)]
set_option maxHeartbeats 1000000 in
theorem reverse_c {N : Nat} {w : World} {v : Value} {l0 : List (Value × Nat)} (hP : PO N w v l0) (h1 : ∀ p, p ∈ l0 → p.1.oneCell' = true) (hb : l0.length ≤ 1000000) :
    Calls Tryz.prog 106 #[v] w (Ret fun _ w' => PO N w' v l0.reverse ∧ Kp (fun i => v.ownBlock = some i) w w') := by
  have hN := hP.1
  obtain ⟨A, c, rfl⟩ := hP.2.sh
  refine calls_W (vs := [_]) Tryz.func106 rfl (by kernel_rfl) rfl ?_
  (repeat (first | with_reducible refine W.seq ?_ | with_reducible refine Ops.nil ?_ | with_reducible refine W.region ?_ | refine z_p (kk := ?_) | refine z_a (kk := ?_) | with_reducible refine W.block ?_ | refine z_l (kk := ?_)))
  refine W.loop (fun m ρ w1 => ∃ (i : Nat) (l : List (Value × Nat)) (j : Int), m = l0.length - i ∧ i ≤ l0.length ∧ j = (l0.length : Int) - 1 - i ∧ ρ = [(0, .slice A l0.length c), (2, .int .i64 (i : Int)), (3, .int .i64 j)] ∧ PO N w1 (.slice A l0.length c) l ∧ l.length = l0.length ∧ (∀ p, p ∈ l → p.1.oneCell' = true) ∧
      (∀ k, k < l0.length → l.getD k default = if k < i ∨ l0.length ≤ k + i then l0.getD (l0.length - 1 - k) default else l0.getD k default) ∧ Kp (fun i => (Value.slice A l0.length c).ownBlock = some i) w w1 ∧ 2 * i ≤ l0.length + 1)
    ⟨_, _, ⟨0, l0, (l0.length : Int) - 1, rfl, Nat.zero_le _, by omega, rfl, hP, rfl, h1, fun k hk => by rw [if_neg (by omega)], Kp.refl _ _, by omega⟩, (by repeat (first | exact trivial | refine And.intro rfl ?_))⟩ ?_
  clear hP
  rintro m ρ w1 ⟨i, l, j, rfl, hi, rfl, rfl, hP, hl, h1l, hget, k01, h2i⟩
  (repeat (first | with_reducible refine W.seq ?_ | with_reducible refine Ops.nil ?_ | with_reducible refine W.region ?_ | refine z_p (kk := ?_)))
  (first | refine W.condD rfl (fun hc => ?_) (fun hc => ?_) | refine W.condE rfl (fun hc => ?_) (fun hc => ?_) | refine W.condN rfl (fun hc => ?_) (fun hc => ?_) | refine W.cond rfl (fun hc => ?_) (fun hc => ?_))
  · have hij : i < l0.length - 1 - i := by omega
    have hj : ((l0.length : Int) - 1 - i) = ((l0.length - 1 - i : Nat) : Int) := by omega
    rw [hj]
    have hrs := rev_step hl hij hget
    have hOP := hP.2
    have hg1 : l.getD i default ∈ l := by rw [List.getD_eq_getElem?_getD, List.getElem?_eq_getElem (by omega)]; exact List.getElem_mem _
    have hg2 : l.getD (l0.length - 1 - i) default ∈ l := by rw [List.getD_eq_getElem?_getD, List.getElem?_eq_getElem (by omega)]; exact List.getElem_mem _
    have c1 := h1l _ hg1
    have c2 := h1l _ hg2
    (repeat (first | with_reducible refine W.seq ?_ | with_reducible refine W.skip ?_ | with_reducible refine W.block ?_))
    refine W.ordA 13 [(0, 1), (1, 1), (2, 1), (3, 1), (4, 1), (5, 1), (6, 1), (7, 2), (8, 1), (9, 1), (10, 1), (11, 2), (12, 1), (13, 0), (14, 1), (15, 0)] rfl (by kernel_rfl) rfl (by kernel_rfl) (fun _ _ _ h => h) ?_
    (repeat (first | refine x_p (kk := ?_)))
    refine x_P1 (kk := fun _ => ?_)
    (repeat (first | refine x_p (kk := ?_)))
    refine x_P1 (kk := fun _ => ?_)
    skip
    refine OrdA.wrP2 (os := l) (u := l.getD (l0.length - 1 - i) default) rfl rfl rfl rfl rfl rfl rfl rfl rfl rfl rfl rfl rfl rfl (fun _ => rfl) c2 rfl hOP (fun _ h => h) (by omega) (by omega) (fun w4 w5 p hF4 hO5 hk5 hz5 => ?_)
    rw [Int.toNat_natCast] at hO5
    refine VW.Ord.wrP2 (os := l.set i (l.getD (l0.length - 1 - i) default)) (u := l.getD i default) rfl rfl rfl rfl rfl rfl rfl rfl rfl rfl rfl rfl rfl rfl (fun _ => rfl) c1 rfl hO5 (by omega) (by rw [List.length_set]; omega) (fun _ _ _ h => h) (fun w6 p6 hO6 hk6 hz6 => ?_)
    rw [Int.toNat_natCast] at hO6
    refine VW.Ord.nil ?_
    have hP6 := po_put hP (tr_size hP.1) hO6 (by have := hF4.size; omega)
    have k06 := ((k01.trans (kpF hF4)).trans (hk5.trans hk6)).mono (S' := fun i => (Value.slice A l0.length c).ownBlock = some i) (fun _ _ e => by rcases e with (e | e) | e | e <;> first | exact e | exact e.elim)
    have hle : ((l.set i (l.getD (l0.length - 1 - i) default)).set (l0.length - 1 - i) (l.getD i default)).length = l0.length := by rw [List.length_set, List.length_set]; exact hl
    (repeat (first | with_reducible refine Ops.nil ?_ | with_reducible refine W.region ?_ | refine z_p (kk := ?_) | refine z_a (kk := ?_) | with_reducible refine W.endb ?_))
    rw [show (((l0.length - 1 - i : Nat) : Int) - 1) = (l0.length : Int) - 1 - ((i + 1 : Nat) : Int) by omega]
    refine W.endl ⟨_, _, ⟨⟨i + 1, _, (l0.length : Int) - 1 - ((i + 1 : Nat) : Int), rfl, by omega, rfl, rfl, hP6, hle, ?_, hrs, k06, by omega⟩, by omega⟩, (by repeat (first | exact trivial | refine And.intro rfl ?_))⟩
    · intro p hp
      rcases List.mem_or_eq_of_mem_set hp with hp | rfl
      · rcases List.mem_or_eq_of_mem_set hp with hp | rfl
        · exact h1l _ hp
        · exact c2
      · exact c1
  · have hij : ¬ i < l0.length - 1 - i := by omega
    have hrev : l = l0.reverse := by
      refine List.ext_getElem? fun k => ?_
      by_cases hk : k < l0.length
      · have h3 := hget k hk
        rw [List.getElem?_reverse hk]
        have e1 : l[k]? = some (l.getD k default) := by rw [List.getD_eq_getElem?_getD, List.getElem?_eq_getElem (by omega)]; rfl
        have e2 : l0[l0.length - 1 - k]? = some (l0.getD (l0.length - 1 - k) default) := by rw [List.getD_eq_getElem?_getD, List.getElem?_eq_getElem (by omega)]; rfl
        rw [e1, e2, h3]
        by_cases e3 : k < i ∨ l0.length ≤ k + i
        · rw [if_pos e3]
        · rw [if_neg e3, show l0.length - 1 - k = k by omega]
      · rw [List.getElem?_eq_none (by omega), List.getElem?_eq_none (by rw [List.length_reverse]; omega)]
    subst hrev
    (repeat (first | refine W.exit rfl ?_))
    exact W.fend rfl ⟨hP, k01⟩
/-- Blocks that the parts of a list of the call's own do not lie in. -/
abbrev SO (N : Nat) (ov : Value) : Nat → Prop := fun i => i < N ∨ ov.ownBlock = some i
/-- One more part, behind the others. -/
theorem so_push {N : Nat} {w2 w3 : World} {ov lv' : Value} (hlt : ∀ i, ov.ownBlock = some i → i < w2.heap.size) (hN : N ≤ w2.heap.size) (k3 : Kp (fun i => ov.ownBlock = some i) w2 w3) (hn3 : ∀ i, lv'.ownBlock = some i → ov.ownBlock = some i ∨ w2.heap.size ≤ i) :
    (∀ {o l}, OA (SO N ov) w2 o l → OA (SO N lv') w3 o l) ∧ (∀ {v o}, OM (SO N ov) w2 v o → OM (SO N lv') w3 v o) := by
  have hmo : ∀ i, (SO N ov i ∨ lv'.ownBlock = some i) → SO N ov i ∨ w2.heap.size ≤ i := fun i h => by
    rcases h with h | h
    · exact .inl h
    · rcases hn3 i h with q | q
      · exact .inl (.inr q)
      · exact .inr q
  exact ⟨fun h => ((OA.more hmo h).kp k3 (fun i e => .inl (.inr e))).more (S' := SO N lv') (fun i h => .inl (by rcases h with h | h; exact .inl (.inl h); exact .inr h)),
    fun h => ((OM.more h hmo).kp k3 (fun i e => .inl (.inr e))).more (S' := SO N lv') (fun i h => .inl (by rcases h with h | h; exact .inl (.inl h); exact .inr h))⟩
set_option maxHeartbeats 4000000 in
theorem lifted_c : ∀ (k : Nat) {w : World} {b m : Nat}, m ≤ k → 2 ≤ b → b ≤ 1000000 → m ≤ 4611686018427387904 →
    Calls Tryz.prog 68 #[.int .i64 (m : Int), .int .i64 (b : Int)] w (Ret fun r w' => OM (fun i => i < w.heap.size) w' r (lif b m) ∧ Below w.heap.size w w') := by
  intro k
  induction k using Nat.strongRecOn with
  | _ k ih =>
  intro w b m0 hmk hb hb2 hm62
  have htot := lif_eq hb m0
  refine calls_W (vs := [_, _]) Tryz.func68 rfl (by kernel_rfl) rfl ?_
  (repeat (first | with_reducible refine W.seq ?_ | with_reducible refine Ops.nil ?_ | with_reducible refine W.region ?_ | refine z_p (kk := ?_) | with_reducible refine W.block ?_))
  refine W.loop (fun z ρ w1 => ∃ (m e : Nat) (acc : Od) (l : List (Value × Nat)) (ov : Value), z = m ∧ m + e ≤ m0 ∧ lif b m0 = lifD b (lif b) m e acc ∧ m * 2 ^ e ≤ m0 ∧ (0 < m ∨ e = 0 ∨ 2 ^ (e - 1) ≤ m0) ∧ l.length ≤ e ∧ ρ = [(0, .int .i64 (m : Int)), (1, .int .i64 (b : Int)), (5, ov), (6, .int .i64 (e : Int))] ∧
      PO w.heap.size w1 ov l ∧ OA (SO w.heap.size ov) w1 acc l.reverse ∧ Below w.heap.size w w1)
    ⟨_, _, ⟨m0, 0, .nil, [], _, rfl, Nat.le_refl _, htot, by omega, .inr (.inl rfl), Nat.le_refl _, rfl, PO.nil (Nat.le_refl _), rfl, Below.refl _ _⟩, (by repeat (first | exact trivial | refine And.intro rfl ?_))⟩ ?_
  rintro m ρ w1 ⟨_, e, acc, l, ov, rfl, hme, heq, hpw, hpz, hll, rfl, hP, hA, hb01⟩
  have hP1 := hP.1
  have he64 : e ≤ 64 := by
    apply Classical.byContradiction
    intro h
    have h1 : (2 : Nat) ^ 63 ≤ 2 ^ (e - 1) := Nat.pow_le_pow_right (by omega) (by omega)
    have h3 : (2 : Nat) ^ 63 = 9223372036854775808 := rfl
    rcases hpz with h2 | h2 | h2
    · have h4 : 2 ^ e ≤ m * 2 ^ e := Nat.le_mul_of_pos_left _ h2
      have h5 : 2 ^ (e - 1) ≤ 2 ^ e := Nat.pow_le_pow_right (by omega) (by omega)
      omega
    · omega
    · omega
  (repeat (first | with_reducible refine W.seq ?_ | with_reducible refine Ops.nil ?_ | with_reducible refine W.region ?_ | refine z_p (kk := ?_)))
  (first | refine W.condD rfl (fun hc => ?_) (fun hc => ?_) | refine W.condE rfl (fun hc => ?_) (fun hc => ?_) | refine W.condN rfl (fun hc => ?_) (fun hc => ?_) | refine W.cond rfl (fun hc => ?_) (fun hc => ?_))
  · have hm : 0 < m := by omega
    have hd := div_lt hb hm
    rw [lifD_pos hb hm] at heq
    have hrec : Calls Tryz.prog 68 #[.int .i64 (e : Int), .int .i64 (b : Int)] w1 (Ret fun r w' => OM (fun i => i < w1.heap.size) w' r (lif b e) ∧ Below w1.heap.size w1 w') := ih e (by omega) (Nat.le_refl _) hb hb2 (by omega)
    have hpw2 : m / b * 2 ^ (e + 1) ≤ m0 := by
      have h1 : m / b ≤ m / 2 := Nat.div_le_div_left hb (by omega)
      have h2 : m / b * 2 ≤ m := by omega
      have h3 := Nat.mul_le_mul_right (2 ^ e) h2
      rw [Nat.pow_succ, ← Nat.mul_assoc, Nat.mul_right_comm]
      omega
    have hpz2 : 2 ^ e ≤ m0 := by
      have h4 : 2 ^ e ≤ m * 2 ^ e := Nat.le_mul_of_pos_left _ hm
      omega
    clear hpw hpz
    (repeat (first | with_reducible refine W.seq ?_ | with_reducible refine W.region ?_ | refine z_p (kk := ?_) | with_reducible refine W.skip ?_ | with_reducible refine W.block ?_))
    refine z_ev (EV.remN rfl rfl rfl (by omega)) (kk := ?_)
    have hml := Nat.mod_lt m (show b > 0 by omega)
    generalize hD : m % b = D at *
    (repeat (first | with_reducible refine W.seq ?_ | with_reducible refine Ops.nil ?_ | with_reducible refine W.region ?_ | refine z_p (kk := ?_)))
    refine W.cut (fun ρ w2 => ∃ (l2 : List (Value × Nat)) (ov2 : Value), ρ = [(0, .int .i64 (m : Int)), (1, .int .i64 (b : Int)), (5, ov2), (6, .int .i64 (e : Int))] ∧ l2.length ≤ e + 1 ∧ PO w.heap.size w2 ov2 l2 ∧ OA (SO w.heap.size ov2) w2 (ptO (lif b e) D acc) l2.reverse ∧ Below w.heap.size w w2) ?_ ?_
    · (first | refine W.condD rfl (fun hc => ?_) (fun hc => ?_) | refine W.condE rfl (fun hc => ?_) (fun hc => ?_) | refine W.condN rfl (fun hc => ?_) (fun hc => ?_) | refine W.cond rfl (fun hc => ?_) (fun hc => ?_))
      · have hd0 : 0 < D := by omega
        (repeat (first | with_reducible refine W.region ?_ | refine z_p (kk := ?_)))
        refine Ops.call rfl rfl rfl rfl rfl hrec (fun ve w2 hR => ?_)
        obtain ⟨hM2, hb12⟩ := hR
        have hve := hM2.one
        have hP2 := po_kp hP (kpF hb12) (fun _ _ e => e)
        have hb02 := Below.via hb01 hb12
        have hA2 := hA.kp (kpF hb12) (fun _ e => e.elim)
        have hM2' : OM (SO w.heap.size ov) w2 ve (lif b e) := hM2.more (fun i h => .inl (by rcases h with h | h; have := hP.1; omega; exact (hP.2.own.lt i h).2))
        (repeat (first | refine z_p (kk := ?_)))
        refine Ops.bld2 rfl rfl rfl rfl rfl rfl rfl hve rfl ?_
        refine Ops.pushP (fa := pA) (fb := pB) (z := (ve, D)) rfl rfl rfl rfl rfl rfl rfl rfl rfl rfl rfl (fun _ => rfl) hve rfl hP2.2 (by omega) (fun lv' p w3 hO3 k3 hn3 => ?_)
        have hP3 := po_put hP2 (tr_size hP2.1) hO3 k3.size
        have hb03 := Below.put hb02 k3 (fun i hi => po_ge hP2 i hi)
        obtain ⟨q1, q2⟩ := so_push (fun i h => (hP2.2.own.lt i h).2) hP2.1 k3 hn3
        have hA3 := q1 hA2
        have hM3 := q2 hM2'
        (repeat (first | with_reducible refine Ops.nil ?_ | refine z_p (kk := ?_)))
        refine W.endl ⟨_, ⟨l ++ [(ve, D)], lv', rfl, by rw [List.length_append, List.length_singleton]; omega, hP3, ?_, hb03⟩, (by repeat (first | exact trivial | refine And.intro rfl ?_))⟩
        rw [List.reverse_append, ptO, if_pos hd0]
        obtain ⟨le, h1, h2⟩ := hM3
        exact ⟨ve, l.reverse, le, rfl, h1, h2, hA3⟩
      · have hd0 : ¬ 0 < D := by omega
        (repeat (first | with_reducible refine W.skip ?_))
        refine W.endl ⟨_, ⟨l, ov, rfl, by omega, hP, ?_, hb01⟩, (by repeat (first | exact trivial | refine And.intro rfl ?_))⟩
        rw [ptO, if_neg hd0]
        exact hA
    · clear hP hA hb01 hP1
      rintro ρ w2 ⟨l2, ov2, rfl, hl2, hP2, hA2, hb02⟩
      (repeat (first | with_reducible refine W.region ?_ | refine z_p (kk := ?_)))
      refine z_ev (EV.quoN rfl rfl rfl (by omega) (by omega)) (kk := ?_)
      (repeat (first | with_reducible refine Ops.nil ?_ | with_reducible refine W.region ?_ | refine z_p (kk := ?_) | refine z_a (kk := ?_) | with_reducible refine W.endb ?_))
      exact W.endl ⟨_, _, ⟨⟨m / b, e + 1, _, l2, ov2, rfl, by omega, heq, hpw2, .inr (.inr hpz2), hl2, rfl, hP2, hA2, hb02⟩, by omega⟩, (by repeat (first | exact trivial | refine And.intro rfl ?_))⟩
  · have hm : m = 0 := by omega
    subst hm
    rw [lifD_zero] at heq
    rw [heq]
    have h1 := OA_one hA
    (repeat (first | with_reducible refine W.seq ?_ | with_reducible refine W.region ?_ | refine z_p (kk := ?_) | refine W.exit rfl ?_))
    refine Ops.call rfl rfl rfl rfl rfl (reverse_c hP (fun p hp => h1 p (List.mem_reverse.2 hp)) (by omega)) (fun r w2 hR => ?_)
    obtain ⟨hP2, k12⟩ := hR
    have hA2 := hA.kp k12 (fun i e => .inr e)
    have hlen := hA.len
    rw [List.length_reverse] at hlen
    (repeat (first | with_reducible refine W.seq ?_ | with_reducible refine Ops.nil ?_ | with_reducible refine W.region ?_ | refine z_p (kk := ?_)))
    refine W.fret rfl ⟨po_OM hP2 (fun i h => h) (hA2.more (fun i h => .inl (.inl h))) (by omega), Below.put hb01 k12 (fun i hi => po_ge hP i hi)⟩
end Go.Proofs.YtcmjlmnfdncajaaGreatDoor
/- Plain: Goodstein's list. -/
namespace Go.Proofs.YtcmjlmnfdncajaaGreatDoor.TW
def goodL : Nat → Nat → Nat → Option (List Nat × List Od)
  | 0, b, m => if bigT (lif b m) = true then none else some ([m], [lif b m])
  | r + 1, b, m => if bigT (lif b m) = true then none else if m = 0 then some ([m], [lif b m]) else
      if bmp b m ≤ 1152921504606846977 then (goodL r (b + 1) (bmp b m - 1)).map (fun q => (m :: q.1, lif b m :: q.2)) else none
def goodR (m steps : Int) : Except Int (List Nat × List Od) :=
  if (0 ≤ m ∧ m ≤ 1000000) ∧ 0 ≤ steps ∧ steps ≤ 50 then match goodL steps.toNat 2 m.toNat with
    | none => .error 5
    | some q => .ok q
  else .error 2
theorem goodL_big {r b m : Nat} (h : bigT (lif b m) = true) : goodL r b m = none := by
  cases r <;> simp [goodL, h]
theorem goodL_end {r b m : Nat} (h : bigT (lif b m) = false) (h2 : m = 0 ∨ r = 0) : goodL r b m = some ([m], [lif b m]) := by
  cases r with
  | zero => simp [goodL, h]
  | succ r =>
    have : m = 0 := by omega
    subst this
    simp [goodL, h]
theorem goodL_more {r b m : Nat} (h : bigT (lif b m) = false) (h2 : m ≠ 0) (h3 : bmp b m ≤ 1152921504606846977) : goodL (r + 1) b m = (goodL r (b + 1) (bmp b m - 1)).map (fun q => (m :: q.1, lif b m :: q.2)) := by
  rw [goodL, if_neg (by rw [h]; simp), if_neg h2, if_pos h3]
theorem goodL_full {r b m : Nat} (h2 : m ≠ 0) (h3 : ¬ bmp b m ≤ 1152921504606846977) : goodL (r + 1) b m = none := by
  simp only [goodL]
  split
  · rfl
  · first | (rw [if_neg h2, if_neg h3]) | simp_all
def bumR (m base : Int) : Except Int (Nat × Od) :=
  if (0 ≤ m ∧ m ≤ 1000000) ∧ 2 ≤ base ∧ base ≤ 1000 then
    if bmp base.toNat m.toNat ≤ 1152921504606846976 ∧ bigT (lif base.toNat m.toNat) = false then .ok (bmp base.toNat m.toNat, lif base.toNat m.toNat) else .error 5
  else .error 2
end Go.Proofs.YtcmjlmnfdncajaaGreatDoor.TW
namespace Go.Proofs.YtcmjlmnfdncajaaGreatDoor
open Go Go.RowKit Go.Proofs.YtcmjlmnfdncajaaGreatDoor.VW Go.Proofs.YtcmjlmnfdncajaaGreatDoor.TW
attribute [local irreducible] W Ops OrdA VW.Ord OrdX Wi OpsI OrdF
def intL (l : List Nat) : List Int := l.map fun n : Nat => (n : Int)
/-- A lifted number that is not too large, as a text. -/
theorem liftT_c {w : World} {b m : Nat} (hb : 2 ≤ b) (hb2 : b ≤ 9000) (hm : m ≤ 4611686018427387904) : szO (lif b m) ≤ 10000 ∧ mostO (lif b m) ≤ 9999 := by
  have h1 := lif_sz62 (m := m) hb (by have : (2 : Nat) ^ 63 = 9223372036854775808 := rfl; omega)
  have h2 := lif_most hb m m (Nat.le_refl _)
  omega
/-- A list of the call's own, below which N blocks lie. -/
structure LO {α : Type} (e : Nat) (enc : α → Value) (N : Nat) (w : World) (v : Value) (l : List α) : Prop where
  own : w.ownsRow 0 e 1 v l.length (l.map enc)
  ge : ∀ i, v.ownBlock = some i → N ≤ i
theorem LO.kp {α : Type} {e : Nat} {enc : α → Value} {N : Nat} {S : Nat → Prop} {w w' : World} {v : Value} {l : List α} (h : LO e enc N w v l) (k : Kp S w w') (hs : ∀ i, v.ownBlock = some i → ¬ S i) : LO e enc N w' v l :=
  ⟨own_kp h.own k hs, h.ge⟩
theorem LO.of {α : Type} {e : Nat} {enc : α → Value} {w0 w : World} {v : Value} {l : List α} (h : OI e enc w0 w v l) : LO e enc w0.heap.size w v l := ⟨h.own, h.ge⟩
theorem LO.oi {α : Type} {e : Nat} {enc : α → Value} {w0 w : World} {v : Value} {l : List α} (h : LO e enc w0.heap.size w v l) (hb : Below w0.heap.size w0 w) : OI e enc w0 w v l := ⟨hb, h.own, h.ge⟩
theorem LO.down {α : Type} {e : Nat} {enc : α → Value} {N M : Nat} {w : World} {v : Value} {l : List α} (h : LO e enc N w v l) (hM : M ≤ N) : LO e enc M w v l := ⟨h.own, fun i hi => Nat.le_trans hM (h.ge i hi)⟩
theorem LO.sh {α : Type} {e : Nat} {enc : α → Value} {N : Nat} {w : World} {v : Value} {l : List α} (h : LO e enc N w v l) : ∃ A c, v = .slice A l.length c := by
  rcases h.own.2 with ⟨h2, h3⟩ | ⟨g, cap, cur, h2, _⟩
  · exact ⟨none, 0, by rw [h2, h3]⟩
  · exact ⟨_, _, h2⟩
theorem LO.nil {α : Type} {e : Nat} {enc : α → Value} {N : Nat} {w : World} : LO e enc N w (.slice none 0 0) [] := ⟨World.ownsRow_nil w 0 e 1, fun i h => by simp [Value.ownBlock] at h⟩
theorem LO.base {α : Type} {e : Nat} {enc : α → Value} {N : Nat} {w : World} {v : Value} {l : List α} (h : LO e enc N w v l) (hN : N ≤ w.heap.size) : OI e enc (tr w N) w v l := ⟨tr_bel hN, h.own, fun i hi => by rw [tr_size hN]; exact h.ge i hi⟩
theorem LO.put {α : Type} {e : Nat} {enc : α → Value} {N : Nat} {w0 w : World} {v : Value} {l : List α} (h : OI e enc (tr w0 N) w v l) (hN : N ≤ w0.heap.size) : LO e enc N w v l := ⟨h.own, fun i hi => by have := h.ge i hi; rwa [tr_size hN] at this⟩
theorem LO.below {α : Type} {e : Nat} {enc : α → Value} {N : Nat} {w w' : World} {v : Value} {l : List α} (h : LO e enc N w v l) (k : Below w.heap.size w w') : LO e enc N w' v l := h.kp (kpF k) (fun _ _ e => e)
structure Gd (w w2 : World) (b2 b3 : Nat) (ns : List Nat) (os : List Od) : Prop where
  res : ∃ v1 v2, Blk w2 b2 #[v1] 28 ∧ Blk w2 b3 #[v2] 24 ∧ LO 3 (Value.int .i64) w.heap.size w2 v1 (intL ns) ∧ LO 9 S w.heap.size w2 v2 (os.map txO) ∧ (∀ i, v1.ownBlock = some i → v2.ownBlock ≠ some i)
set_option maxHeartbeats 8000000 in
theorem Goodstein1_c {w : World} {b0 b1 b2 b3 : Nat} {m steps : Int} (hT : Tbl w) (h23 : b2 ≠ b3) (h02 : b0 ≠ b2) (h03 : b0 ≠ b3)
    (B0 : Blk w b0 #[.int .i64 m] 3) (B1 : Blk w b1 #[.int .i64 steps] 3) (h01 : b0 ≠ b1) (B2 : Blk w b2 #[.slice none 0 0] 28) (B3 : Blk w b3 #[.slice none 0 0] 24) (hTb : ∀ g, Tryz.prog.globalNamed "internal/strconv.uint64pow10" = some g → b0 ≠ g) :
    Calls Tryz.prog 66 #[.pointer (some ⟨b0, 0, none⟩), .pointer (some ⟨b1, 0, none⟩), .pointer (some ⟨b2, 0, none⟩), .pointer (some ⟨b3, 0, none⟩)] w
      (RetP (fun _ w' => Kp (fun i => i = b0 ∨ i = b2 ∨ i = b3) w w' ∧ ∃ x, goodR m steps = .ok x ∧ Gd w w' b2 b3 x.1 x.2) (fun ch w' => ∃ e, ch = trb e ∧ Kp (fun i => i = b0 ∨ i = b2 ∨ i = b3) w w' ∧ goodR m steps = .error e ∧ Kp (fun i => i = b0) w w')) := by
  refine calls_WP (vs := [_, _, _, _]) Tryz.func66 rfl (by kernel_rfl) rfl ?_
  have l0 := B0.lt
  have l2 := B2.lt
  have l3 := B3.lt
  (repeat (first | with_reducible refine W.seq ?_ | with_reducible refine W.region ?_ | refine z_d (kk := ?_)))
  refine Ops.callS rfl rfl rfl rfl rfl (within_c _ _ _ _) ?_
  (repeat (first | refine z_p (kk := ?_)))
  by_cases h1 : 0 ≤ m ∧ m ≤ 1000000
  · rw [decide_eq_true h1]
    (repeat (first | refine z_y (kk := ?_) | refine z_d (kk := ?_)))
    refine Ops.callS rfl rfl rfl rfl rfl (within_c _ _ _ _) ?_
    (repeat (first | refine z_p (kk := ?_)))
    refine Ops.callP rfl rfl rfl rfl rfl (demand_c _ _ _) (fun r w1 hR => ?_) (fun ch w1 hR => ?_)
    rotate_left
    · obtain ⟨hb, rfl, rfl⟩ := hR
      have h2 := of_decide_eq_false hb
      exact ⟨2, rfl, Kp.refl _ _, by unfold goodR; rw [if_neg (fun h => h2 h.2)], Kp.refl _ _⟩
    obtain ⟨hb, hw1⟩ := hR
    subst w1
    have h2 := of_decide_eq_true hb
    clear hb
    obtain ⟨m0, rfl⟩ : ∃ m0 : Nat, m = (m0 : Int) := ⟨m.toNat, by omega⟩
    obtain ⟨st, rfl⟩ : ∃ st : Nat, steps = (st : Int) := ⟨steps.toNat, by omega⟩
    have hgr : goodR (m0 : Int) (st : Int) = match goodL st 2 m0 with | none => .error 5 | some q => .ok q := by
      unfold goodR
      rw [if_pos ⟨h1, h2⟩, Int.toNat_natCast, Int.toNat_natCast]
      all_goals (cases goodL st 2 m0 <;> rfl)
    (repeat (first | with_reducible refine W.seq ?_ | with_reducible refine Ops.nil ?_ | with_reducible refine W.region ?_ | refine z_p (kk := ?_) | with_reducible refine W.block ?_))
    refine W.loop (fun z ρ w2 => ∃ (m r b : Nat) (ns : List Nat) (os : List Od) (v1 v2 : Value), z = r ∧ ρ = [(0, .pointer (some ⟨b0, 0, none⟩)), (1, .pointer (some ⟨b1, 0, none⟩)), (2, .pointer (some ⟨b2, 0, none⟩)), (3, .pointer (some ⟨b3, 0, none⟩)), (4, v1), (5, v2), (6, .int .i64 (b : Int))] ∧
        m ≤ 1152921504606846976 ∧ ns.length + r = st ∧ os.length = ns.length ∧ b = 2 + ns.length ∧ goodL st 2 m0 = (goodL r b m).map (fun q => (ns ++ q.1, os ++ q.2)) ∧
        LO 3 (Value.int .i64) w.heap.size w2 v1 (intL ns) ∧ LO 9 S w.heap.size w2 v2 (os.map txO) ∧ (∀ i, v1.ownBlock = some i → v2.ownBlock ≠ some i) ∧ Blk w2 b0 #[.int .i64 (m : Int)] 3 ∧ Blk w2 b1 #[.int .i64 (st : Int)] 3 ∧ Kp (fun i => i = b0) w w2)
      ⟨_, _, ⟨m0, st, 2, [], [], _, _, rfl, rfl, by omega, by simp, rfl, rfl, by cases goodL st 2 m0 <;> rfl, LO.nil, LO.nil, fun i h => by simp [Value.ownBlock] at h, B0, B1, Kp.refl _ _⟩, (by repeat (first | exact trivial | refine And.intro rfl ?_))⟩ ?_
    rintro r ρ w2 ⟨m, _, b, ns, os, v1, v2, rfl, rfl, hm, hlen, hol, hb, heq, hO1, hO2, hne, B02, B12, k02⟩
    have hTw := hT.kp k02 (fun i e g hg => by subst e; exact hTb g hg)
    have hw2 := k02.size
    have hil : (intL ns).length = ns.length := List.length_map _
    have hol2 : (os.map txO).length = ns.length := by rw [List.length_map]; exact hol
    have hg1 : ∀ i, v1.ownBlock = some i → w.heap.size ≤ i := hO1.ge
    have hg2 : ∀ i, v2.ownBlock = some i → w.heap.size ≤ i := hO2.ge
    (repeat (first | with_reducible refine W.seq ?_ | with_reducible refine W.region ?_ | refine z_p (kk := ?_) | with_reducible refine W.block ?_ | refine z_d (kk := ?_)))
    refine Ops.pushO (enc := Value.int .i64) (u := (m : Int)) rfl rfl rfl rfl rfl rfl rfl rfl rfl rfl rfl rfl (fun _ => rfl) rfl (hO1.base hw2) (by omega) (fun v1' p w3 hO13 k3 hn3 => ?_)
    replace hO13 := LO.put hO13 hw2
    have hO23 := hO2.kp k3 (fun i hi e => hne i e hi)
    have hne3 : ∀ i, v1'.ownBlock = some i → v2.ownBlock ≠ some i := fun i hi e => by
      rcases hn3 i hi with q | q
      · exact hne i q e
      · have := (hO2.own.lt i e).2; omega
    have B03 := B02.kp k3 (fun e => by have := hg1 _ e; omega)
    have B13 := B12.kp k3 (fun e => by have := hg1 _ e; have := B1.lt; omega)
    have k03 : Kp (fun i => i = b0) w w3 := (k02.trans k3).mono (fun i hi q => by rcases q with q | q; exact q; have := hg1 i q; omega)
    have hT3 := hT.kp k03 (fun i e g hg => by subst e; exact hTb g hg)
    obtain ⟨hsz, hmo⟩ := liftT_c (w := w) (b := b) (m := m) (by omega) (by omega) (by omega)
    clear hO1 hO2 hne k3 B02 B12 k02 hTw
    (repeat (first | with_reducible refine W.seq ?_ | with_reducible refine Ops.nil ?_ | with_reducible refine W.region ?_ | refine z_p (kk := ?_) | refine z_d (kk := ?_)))
    refine Ops.call rfl rfl rfl rfl rfl (lifted_c m (Nat.le_refl _) (by omega) (by omega) (by omega)) (fun vl w4 hR => ?_)
    obtain ⟨hM4, hb34⟩ := hR
    skip
    refine Ops.callP rfl rfl rfl rfl rfl (checked_c hM4 (by omega)) (fun vc w5 hR => ?_) (fun ch w5 hR => ?_)
    rotate_left
    · obtain ⟨rfl, hbig, hb45⟩ := hR
      have k05 : Kp (fun i => i = b0) w w5 := (k03.trans (kpF (Below.via hb34 hb45))).mono (fun i hi q => by rcases q with q | q; exact q; exact q.elim)
      refine ⟨5, rfl, k05.mono (fun _ _ e => .inl e), ?_, k05⟩
      rw [hgr, heq, goodL_big hbig]; rfl
    obtain ⟨rfl, hbig, hb45⟩ := hR
    have hb35 := Below.via hb34 hb45
    refine Ops.call rfl rfl rfl rfl rfl (text_c _ (Nat.le_refl _) (by omega) hmo (hT3.below hb35) (hM4.below hb45)) (fun vt w6 hR => ?_)
    obtain ⟨rfl, hb56⟩ := hR
    have hb36 := Below.via hb35 hb56
    have hO16 := hO13.below hb36
    have hO26 := hO23.below hb36
    have B06 := B03.kp (kpF hb36) (fun e => e)
    have B16 := B13.kp (kpF hb36) (fun e => e)
    have k06 : Kp (fun i => i = b0) w w6 := (k03.trans (kpF hb36)).mono (fun i hi q => by rcases q with q | q; exact q; exact q.elim)
    clear hO13 hO23 B03 B13 k03 hT3 hM4 hb34 hb45 hb35 hb56
    skip
    refine Ops.pushO (enc := S) (u := txO (lif b m)) rfl rfl rfl rfl rfl rfl rfl rfl rfl rfl rfl rfl (fun _ => rfl) rfl (hO26.base k06.size) (by rw [hol2]; omega) (fun v2' p w7 hO27 k7 hn7 => ?_)
    replace hO27 := LO.put hO27 k06.size
    have hO17 := hO16.kp k7 (fun i hi e => hne3 i hi e)
    have hne7 : ∀ i, v1'.ownBlock = some i → v2'.ownBlock ≠ some i := fun i hi e => by
      rcases hn7 i e with q | q
      · exact hne3 i hi q
      · have := (hO16.own.lt i hi).2; omega
    have B07 := B06.kp k7 (fun e => by have := hg2 _ e; omega)
    have B17 := B16.kp k7 (fun e => by have := hg2 _ e; have := B1.lt; omega)
    have k07 : Kp (fun i => i = b0) w w7 := (k06.trans k7).mono (fun i hi q => by rcases q with q | q; exact q; have := hg2 i q; omega)
    have e1 : intL ns ++ [(m : Int)] = intL (ns ++ [m]) := by simp [intL]
    have e2 : os.map txO ++ [txO (lif b m)] = (os ++ [lif b m]).map txO := by simp
    rw [e1] at hO17
    rw [e2] at hO27
    have hil7 : (intL (ns ++ [m])).length = ns.length + 1 := by simp [intL]
    obtain ⟨A1, c1, hv1⟩ := hO17.sh
    rw [hil7] at hv1
    subst hv1
    obtain ⟨A2, c2, hv2⟩ := hO27.sh
    rw [show ((os ++ [lif b m]).map txO).length = ns.length + 1 by simp [hol]] at hv2
    subst hv2
    clear hO16 hO26 hne3 k7 B06 B16 k06 hb36
    (repeat (first | with_reducible refine W.seq ?_ | with_reducible refine Ops.nil ?_ | with_reducible refine W.region ?_ | refine z_p (kk := ?_) | refine z_d (kk := ?_)))
    have hf1 : ∀ i, i < w.heap.size → (Value.slice A1 (ns.length + 1) c1).ownBlock ≠ some i := fun i hi e => by have := hO17.ge i e; omega
    have hf2 : ∀ i, i < w.heap.size → (Value.slice A2 (ns.length + 1) c2).ownBlock ≠ some i := fun i hi e => by have := hO27.ge i e; omega
    by_cases hend : m = 0 ∨ r = 0
    · have hge := goodL_end hbig hend
      have hx : goodR (m0 : Int) (st : Int) = .ok (ns ++ [m], os ++ [lif b m]) := by rw [hgr, heq, hge]; rfl
      have B27 : Blk w7 b2 #[.slice none 0 0] 28 := B2.kp k07 (fun e => h02 e.symm)
      have B37 : Blk w7 b3 #[.slice none 0 0] 24 := B3.kp k07 (fun e => h03 e.symm)
      by_cases hm0 : m = 0
      · subst hm0
        (repeat (first | with_reducible refine Ops.nil ?_ | refine z_p (kk := ?_) | refine z_n (kk := ?_)))
        refine W.condT rfl (by first | rfl | assumption | (simp only [bnf] <;> omega) | (simp only [*, bnf]; done) | fail) ?_
        (repeat (first | with_reducible refine W.region ?_ | refine z_p (kk := ?_) | refine W.exit rfl ?_))
        refine Ops.st rfl rfl rfl rfl rfl rfl rfl B27 (by simp) (fun w8 hu8 => ?_)
        have B28 : Blk w8 b2 #[.slice A1 (ns.length + 1) c1] 28 := hu8.blk
        have B38 := B37.kp hu8.kp (fun e => h23 e.symm)
        skip
        refine Ops.st rfl rfl rfl rfl rfl rfl rfl B38 (by simp) (fun w9 hu9 => ?_)
        have B39 : Blk w9 b3 #[.slice A2 (ns.length + 1) c2] 24 := hu9.blk
        have B29 := B28.kp hu9.kp (fun e => h23 e)
        have hO19 := (hO17.kp hu8.kp (fun i hi e => hf1 i (by omega) hi)).kp hu9.kp (fun i hi e => hf1 i (by omega) hi)
        have hO29 := (hO27.kp hu8.kp (fun i hi e => hf2 i (by omega) hi)).kp hu9.kp (fun i hi e => hf2 i (by omega) hi)
        (repeat (first | with_reducible refine Ops.nil ?_))
        exact W.fendP rfl ⟨((k07.trans hu8.kp).trans hu9.kp).mono (fun i hi q => by rcases q with (q | q) | q <;> omega), _, hx, ⟨_, _, B29, B39, hO19, hO29, hne7⟩⟩
      · have hr0 : r = 0 := by omega
        (repeat (first | with_reducible refine Ops.nil ?_ | refine z_p (kk := ?_) | refine z_y (kk := ?_) | refine z_l (kk := ?_) | refine z_d (kk := ?_) | refine z_h (kk := ?_)))
        refine W.condT rfl (by first | rfl | assumption | (simp only [bnf] <;> omega) | (simp only [*, bnf]; done) | fail) ?_
        (repeat (first | with_reducible refine W.region ?_ | refine z_p (kk := ?_) | refine W.exit rfl ?_))
        refine Ops.st rfl rfl rfl rfl rfl rfl rfl B27 (by simp) (fun w8 hu8 => ?_)
        have B28 : Blk w8 b2 #[.slice A1 (ns.length + 1) c1] 28 := hu8.blk
        have B38 := B37.kp hu8.kp (fun e => h23 e.symm)
        skip
        refine Ops.st rfl rfl rfl rfl rfl rfl rfl B38 (by simp) (fun w9 hu9 => ?_)
        have B39 : Blk w9 b3 #[.slice A2 (ns.length + 1) c2] 24 := hu9.blk
        have B29 := B28.kp hu9.kp (fun e => h23 e)
        have hO19 := (hO17.kp hu8.kp (fun i hi e => hf1 i (by omega) hi)).kp hu9.kp (fun i hi e => hf1 i (by omega) hi)
        have hO29 := (hO27.kp hu8.kp (fun i hi e => hf2 i (by omega) hi)).kp hu9.kp (fun i hi e => hf2 i (by omega) hi)
        (repeat (first | with_reducible refine Ops.nil ?_))
        exact W.fendP rfl ⟨((k07.trans hu8.kp).trans hu9.kp).mono (fun i hi q => by rcases q with (q | q) | q <;> omega), _, hx, ⟨_, _, B29, B39, hO19, hO29, hne7⟩⟩
    · have hm0 : m ≠ 0 := fun h => hend (.inl h)
      have hr0 : 0 < r := Nat.pos_of_ne_zero (fun h => hend (.inr h))
      obtain ⟨r', rfl⟩ : ∃ r', r = r' + 1 := ⟨r - 1, by omega⟩
      have hcap : cap60 (bmp b m) ≤ 1152921504606846978 := by unfold cap60; omega
      have hbm := le_bmp (b := b) (by omega) m
      have hcap1 : 1 ≤ cap60 (bmp b m) := by unfold cap60; omega
      (repeat (first | with_reducible refine Ops.nil ?_ | refine z_p (kk := ?_) | refine z_y (kk := ?_) | refine z_l (kk := ?_) | refine z_d (kk := ?_) | refine z_h (kk := ?_)))
      refine W.condF rfl (by first | rfl | assumption | (simp only [bnf] <;> omega) | (simp only [*, bnf]; done) | fail) ?_
      (repeat (first | with_reducible refine W.seq ?_ | with_reducible refine W.region ?_ | refine z_p (kk := ?_) | with_reducible refine W.skip ?_ | refine z_d (kk := ?_)))
      refine Ops.callS rfl rfl rfl rfl rfl (bumped_c m (Nat.le_refl _) (by omega) (by omega) (by omega)) ?_
      (repeat (first | with_reducible refine W.seq ?_ | with_reducible refine Ops.nil ?_ | with_reducible refine W.region ?_ | refine z_p (kk := ?_) | refine z_a (kk := ?_)))
      refine Ops.callP rfl rfl rfl rfl rfl (demand_c _ _ _) (fun r w8 hR => ?_) (fun ch w8 hR => ?_)
      rotate_left
      · obtain ⟨hb, rfl, rfl⟩ := hR
        have h3 := of_decide_eq_false hb
        refine ⟨5, rfl, k07.mono (fun _ _ e => .inl e), ?_, k07⟩
        rw [hgr, heq, goodL_full hm0 (by unfold cap60 at h3; omega)]; rfl
      obtain ⟨hb, hw8⟩ := hR
      subst w8
      have h3 := of_decide_eq_true hb
      have h3' : bmp b m ≤ 1152921504606846977 := by unfold cap60 at h3; omega
      have hcb : cap60 (bmp b m) = bmp b m := by unfold cap60; omega
      rw [hcb] at *
      have hmr := goodL_more (r := r') hbig hm0 h3'
      (repeat (first | with_reducible refine Ops.nil ?_ | with_reducible refine W.region ?_ | refine z_p (kk := ?_) | refine z_a (kk := ?_)))
      refine Ops.st rfl rfl rfl rfl rfl rfl rfl B07 (by simp) (fun w8 hu8 => ?_)
      have B08 : Blk w8 b0 #[.int .i64 ((bmp b m : Int) - 1)] 3 := hu8.blk
      rw [show ((bmp b m : Int) - 1) = ((bmp b m - 1 : Nat) : Int) by omega] at B08
      have hO18 := (hO17.kp hu8.kp (fun i hi e => hf1 i (by omega) hi))
      have hO28 := (hO27.kp hu8.kp (fun i hi e => hf2 i (by omega) hi))
      have B18 := B17.kp hu8.kp (fun e => h01 e.symm)
      have k08 : Kp (fun i => i = b0) w w8 := kpb k07 hu8.kp
      (repeat (first | with_reducible refine Ops.nil ?_ | with_reducible refine W.region ?_ | refine z_p (kk := ?_) | refine z_a (kk := ?_) | with_reducible refine W.endb ?_))
      refine W.endl ⟨_, _, ⟨⟨bmp b m - 1, r', b + 1, ns ++ [m], os ++ [lif b m], _, _, rfl, rfl, by omega, by rw [List.length_append, List.length_singleton]; omega, by simp [hol], by rw [List.length_append, List.length_singleton]; omega, ?_, hO18, hO28, hne7, B08, B18, k08⟩, by omega⟩, (by repeat (first | exact trivial | refine And.intro rfl ?_))⟩
      rw [heq, hmr]
      cases goodL r' (b + 1) (bmp b m - 1) with
      | none => rfl
      | some q => simp
  · rw [decide_eq_false h1]
    (repeat (first | refine z_p (kk := ?_) | refine z_n (kk := ?_)))
    refine Ops.callP rfl rfl rfl rfl rfl (demand_c _ _ _) (fun r w1 hR => ?_) (fun ch w1 hR => ?_)
    · exact absurd hR.1 (by simp)
    · obtain ⟨hb, rfl, rfl⟩ := hR
      exact ⟨2, rfl, Kp.refl _ _, by unfold goodR; rw [if_neg (fun h => h1 h.1)], Kp.refl _ _⟩
end Go.Proofs.YtcmjlmnfdncajaaGreatDoor
namespace Go.Proofs.YtcmjlmnfdncajaaGreatDoor
open Go Go.RowKit Go.Proofs.YtcmjlmnfdncajaaGreatDoor.VW Go.Proofs.YtcmjlmnfdncajaaGreatDoor.TW
attribute [local irreducible] W Ops OrdA VW.Ord OrdX Wi OpsI OrdF
def outG : Except Int (List Nat × List Od) → List Nat × List Od
  | .ok x => x
  | .error _ => ([], [])
theorem Tbl.lt {w : World} (h : Tbl w) : ∀ g, Tryz.prog.globalNamed "internal/strconv.uint64pow10" = some g → g < w.heap.size := fun g hg => by
  unfold Tbl Lib.TabIs World.var? at h
  rw [hg] at h
  simp only [Option.bind_some] at h
  apply Classical.byContradiction
  intro hn
  rw [Array.getElem?_eq_none (by omega)] at h
  simp at h
set_option maxHeartbeats 4000000 in
theorem Goodstein_c {w : World} {m steps : Int} (hT : Tbl w) :
    Calls Tryz.prog 18 #[.int .i64 m, .int .i64 steps] w (Ret fun r w' => ∃ v1 v2, r = .tuple #[v1, v2, .int .i64 (outE (goodR m steps))] ∧ LO 3 (Value.int .i64) w.heap.size w' v1 (intL (outG (goodR m steps)).1) ∧ LO 9 S w.heap.size w' v2 ((outG (goodR m steps)).2.map txO) ∧ (∀ i, v1.ownBlock = some i → v2.ownBlock ≠ some i) ∧ Below w.heap.size w w') := by
  refine calls_W (vs := [_, _]) Tryz.func18 rfl (by kernel_rfl) rfl ?_
  (repeat (first | with_reducible refine W.seq ?_ | with_reducible refine W.region ?_))
  refine Ops.box rfl rfl rfl rfl (fun w1 b0 hM1 => ?_)
  refine Ops.box rfl rfl rfl rfl (fun w2 b1 hM2 => ?_)
  refine Ops.alloc rfl rfl rfl rfl (fun w3 b2 hM3 => ?_)
  refine Ops.alloc rfl rfl rfl rfl (fun w4 b3 hM4 => ?_)
  have hb34 := Mk.bel hM4
  have hb24 := Below.via (Mk.bel hM3) hb34
  have hb14 := Below.via (Mk.bel hM2) hb24
  have hb04 := Below.via (Mk.bel hM1) hb14
  have B0 : Blk w4 b0 #[.int .i64 m] 3 := Blk.kp (w := w1) (hM1.at_) (kpF hb14) (fun e => e)
  have B1 : Blk w4 b1 #[.int .i64 steps] 3 := Blk.kp (w := w2) (hM2.at_) (kpF hb24) (fun e => e)
  have B2 : Blk w4 b2 #[.slice none 0 0] 28 := Blk.kp (w := w3) (hM3.at_) (kpF hb34) (fun e => e)
  have B3 : Blk w4 b3 #[.slice none 0 0] 24 := hM4.at_
  have e0 := hM1.r_eq
  have e1 := hM2.r_eq
  have e2 := hM3.r_eq
  have e3 := hM4.r_eq
  have s1 := hM1.size
  have s2 := hM2.size
  have s3 := hM3.size
  have s4 := hM4.size
  have hTl := hT.lt
  (repeat (first | with_reducible refine W.seq ?_ | with_reducible refine Ops.nil ?_ | with_reducible refine W.region ?_ | refine z_p (kk := ?_)))
  refine Ops.call rfl rfl rfl rfl rfl (guard_c (F := 66) (caps := [.pointer (some ⟨b0, 0, none⟩), .pointer (some ⟨b1, 0, none⟩), .pointer (some ⟨b2, 0, none⟩), .pointer (some ⟨b3, 0, none⟩)]) (T := fun i => i = b0 ∨ i = b2 ∨ i = b3) (N := fun w1 w' => ∃ x, goodR m steps = .ok x ∧ Gd w1 w' b2 b3 x.1 x.2) (E' := fun w1 w' e => goodR m steps = .error e ∧ Kp (fun i => i = b0) w1 w') rfl (fun i h => by omega) (fun w5 hlt hb5 => Goodstein1_c (hT.below (Below.via hb04 hb5)) (by omega) (by omega) (by omega) (B0.kp (kpF hb5) (fun e => e)) (B1.kp (kpF hb5) (fun e => e)) (by omega) (B2.kp (kpF hb5) (fun e => e)) (B3.kp (kpF hb5) (fun e => e)) (fun g hg e => by have := hTl g hg; omega))) (fun r w' hR => ?_)
  obtain ⟨w5, w6, hlt, hb5, k56, k67, hor⟩ := hR
  have hfin : ∃ v1 v2 e, LO 3 (Value.int .i64) w4.heap.size w' v1 (intL (outG (goodR m steps)).1) ∧ LO 9 S w4.heap.size w' v2 ((outG (goodR m steps)).2.map txO) ∧ (∀ i, v1.ownBlock = some i → v2.ownBlock ≠ some i) ∧ e = outE (goodR m steps) ∧ r = .int .i64 e ∧ Blk w' b2 #[v1] 28 ∧ Blk w' b3 #[v2] 24 := by
    rcases hor with ⟨rfl, x, h1, ⟨v1, v2, C2, C3, hO1, hO2, hne⟩⟩ | ⟨e, rfl, h1, h2⟩
    · have f1 := hO1.ge
      have f2 := hO2.ge
      refine ⟨v1, v2, 0, ?_, ?_, hne, by rw [h1]; rfl, rfl, C2.kp k67 (fun h => by omega), C3.kp k67 (fun h => by omega)⟩
      · rw [h1]
        exact (hO1.kp k67 (fun i hi e => by have := f1 i hi; omega)).down (by omega)
      · rw [h1]
        exact (hO2.kp k67 (fun i hi e => by have := f2 i hi; omega)).down (by omega)
    · refine ⟨_, _, e, ?_, ?_, ?_, by rw [h1]; rfl, rfl, ((B2.kp (kpF hb5) (fun e => e)).kp h2 (fun e => by omega)).kp k67 (fun h => by omega), ((B3.kp (kpF hb5) (fun e => e)).kp h2 (fun e => by omega)).kp k67 (fun h => by omega)⟩
      · rw [h1]; exact LO.nil
      · rw [h1]; exact LO.nil
      · intro i hi; simp [Value.ownBlock] at hi
  obtain ⟨v1, v2, e, hO1, hO2, hne, he, rfl, C2, C3⟩ := hfin
  have hb0' : Below w.heap.size w w' := Below.put (Below.put (Below.via hb04 hb5) k56 (fun i h => by omega)) k67 (fun i h => by omega)
  have hbww : Below w'.heap.size w' w' := Below.refl _ _
  obtain ⟨A1, c1, hv1⟩ := hO1.sh
  obtain ⟨A2, c2, hv2⟩ := hO2.sh
  have o1 : v1.oneCell' = true := by rw [hv1]; rfl
  have o2 : v2.oneCell' = true := by rw [hv2]; rfl
  have f1 := hO1.ge
  have f2 := hO2.ge
  rw [← he]
  (repeat (first | with_reducible refine W.seq ?_ | with_reducible refine Ops.nil ?_ | refine z_p (kk := ?_)))
  refine W.ordF (fun wf => Blk wf b2 #[v1] 28 ∧ Blk wf b3 #[v2] 24 ∧ LO 3 (Value.int .i64) w4.heap.size wf v1 (intL (outG (goodR m steps)).1) ∧ LO 9 S w4.heap.size wf v2 ((outG (goodR m steps)).2.map txO) ∧ Below w.heap.size w wf) [0, 1, 2, 3, 4, 5] rfl (by kernel_rfl) rfl (fun _ _ _ h => h) (fun w8 k8 _ => ⟨⟨C2.kp k8 (fun e => e), C3.kp k8 (fun e => e), hO1.kp k8 (fun _ _ e => e), hO2.kp k8 (fun _ _ e => e), Below.put hb0' k8 (fun _ e => e.elim)⟩, ?_⟩)
  have hF8 : Blk w8 b2 #[v1] 28 ∧ Blk w8 b3 #[v2] 24 ∧ LO 3 (Value.int .i64) w4.heap.size w8 v1 (intL (outG (goodR m steps)).1) ∧ LO 9 S w4.heap.size w8 v2 ((outG (goodR m steps)).2.map txO) ∧ Below w.heap.size w w8 := ⟨C2.kp k8 (fun e => e), C3.kp k8 (fun e => e), hO1.kp k8 (fun _ _ e => e), hO2.kp k8 (fun _ _ e => e), Below.put hb0' k8 (fun _ e => e.elim)⟩
  obtain ⟨D2, D3, hP1, hP2, hb8⟩ := hF8
  refine OrdF.take (by kernel_rfl) rfl rfl rfl rfl (fun w hF => EV.ld rfl rfl rfl (Blk.cell hF.1 rfl)) ?_
  refine OrdF.take (by kernel_rfl) rfl rfl rfl rfl (fun w hF => EV.ld rfl rfl rfl (Blk.cell hF.2.1 rfl)) ?_
  refine OrdF.take (by kernel_rfl) rfl rfl rfl rfl (fun w hF => EV.pu rfl) ?_
  have step : ∀ {wa wb : World} {b : Nat}, (b = b2 ∨ b = b3) → Kp (fun i => i = b) wa wb → LO 3 (Value.int .i64) w4.heap.size wa v1 (intL (outG (goodR m steps)).1) → LO 9 S w4.heap.size wa v2 ((outG (goodR m steps)).2.map txO) → Below w.heap.size w wa → LO 3 (Value.int .i64) w4.heap.size wb v1 (intL (outG (goodR m steps)).1) ∧ LO 9 S w4.heap.size wb v2 ((outG (goodR m steps)).2.map txO) ∧ Below w.heap.size w wb := fun hb k h1 h2 h3 =>
    ⟨h1.kp k (fun i hi e => by have := f1 i hi; omega), h2.kp k (fun i hi e => by have := f2 i hi; omega), Below.put h3 k (fun i h => by omega)⟩
  refine OrdF.one 3 (by kernel_rfl) rfl (Ops.st rfl rfl rfl rfl rfl rfl o1 D2 (by simp) (fun w9 hu9 => Ops.nil (W.endl ?_)))
  have D29 : Blk w9 b2 #[v1] 28 := by simpa using hu9.blk
  have D39 : Blk w9 b3 #[v2] 24 := D3.kp hu9.kp (fun e => by omega)
  obtain ⟨hP1, hP2, hb9⟩ := step (.inl rfl) hu9.kp hP1 hP2 hb8
  refine ⟨⟨D29, D39, hP1, hP2, hb9⟩, ?_⟩
  refine OrdF.one 4 (by kernel_rfl) rfl (Ops.st rfl rfl rfl rfl rfl rfl o2 D39 (by simp) (fun w10 hu10 => Ops.nil (W.endl ?_)))
  have E2 : Blk w10 b2 #[v1] 28 := D29.kp hu10.kp (fun e => by omega)
  have E3 : Blk w10 b3 #[v2] 24 := by simpa using hu10.blk
  obtain ⟨hP1, hP2, hb10⟩ := step (.inr rfl) hu10.kp hP1 hP2 hb9
  refine ⟨⟨E2, E3, hP1, hP2, hb10⟩, ?_⟩
  refine OrdF.take (by kernel_rfl) rfl rfl rfl rfl (fun w hF => EV.pu rfl) ?_
  refine OrdF.done (by kernel_rfl) ?_
  skip
  exact W.fretW (vs := [_, _, _]) ⟨_, _, rfl, ⟨b2, 0, _, 28, rfl, rfl, E2, rfl⟩, _, _, rfl, ⟨b3, 0, _, 24, rfl, rfl, E3, rfl⟩, _, _, rfl, rfl, rfl⟩
    ⟨v1, v2, rfl, hP1.down (by omega), hP2.down (by omega), hne, hb10⟩
end Go.Proofs.YtcmjlmnfdncajaaGreatDoor
namespace Go.Proofs.YtcmjlmnfdncajaaGreatDoor
open Go Go.RowKit Go.Proofs.YtcmjlmnfdncajaaGreatDoor.VW Go.Proofs.YtcmjlmnfdncajaaGreatDoor.TW
attribute [local irreducible] W Ops OrdA VW.Ord OrdX Wi OpsI OrdF
def outN : Except Int (Nat × Od) → Int × List UInt8
  | .ok x => ((x.1 : Int), txO x.2)
  | .error _ => (0, [])
set_option maxHeartbeats 4000000 in
theorem Bumped1_c {w : World} {b0 b1 b2 b3 : Nat} {m base : Int} (hT : Tbl w) (h23 : b2 ≠ b3)
    (B0 : Blk w b0 #[.int .i64 m] 3) (B1 : Blk w b1 #[.int .i64 base] 3) (B2 : Blk w b2 #[.int .i64 0] 3) (B3 : Blk w b3 #[S []] 9) :
    Calls Tryz.prog 81 #[.pointer (some ⟨b0, 0, none⟩), .pointer (some ⟨b1, 0, none⟩), .pointer (some ⟨b2, 0, none⟩), .pointer (some ⟨b3, 0, none⟩)] w
      (RetP (fun _ w' => Kp (fun i => i = b2 ∨ i = b3) w w' ∧ ∃ x, bumR m base = .ok x ∧ Blk w' b2 #[.int .i64 (x.1 : Int)] 3 ∧ Blk w' b3 #[S (txO x.2)] 9) (fun ch w' => ∃ e, ch = trb e ∧ Kp (fun i => i = b2 ∨ i = b3) w w' ∧ bumR m base = .error e ∧ Kp (fun _ => False) w w')) := by
  refine calls_WP (vs := [_, _, _, _]) Tryz.func81 rfl (by kernel_rfl) rfl ?_
  (repeat (first | with_reducible refine W.seq ?_ | with_reducible refine W.region ?_ | refine z_d (kk := ?_)))
  refine Ops.callS rfl rfl rfl rfl rfl (within_c _ _ _ _) ?_
  (repeat (first | refine z_p (kk := ?_)))
  by_cases h1 : 0 ≤ m ∧ m ≤ 1000000
  · rw [decide_eq_true h1]
    (repeat (first | refine z_y (kk := ?_) | refine z_d (kk := ?_)))
    refine Ops.callS rfl rfl rfl rfl rfl (within_c _ _ _ _) ?_
    (repeat (first | refine z_p (kk := ?_)))
    refine Ops.callP rfl rfl rfl rfl rfl (demand_c _ _ _) (fun r w1 hR => ?_) (fun ch w1 hR => ?_)
    rotate_left
    · obtain ⟨hb, rfl, rfl⟩ := hR
      have h2 := of_decide_eq_false hb
      exact ⟨2, rfl, Kp.refl _ _, by unfold bumR; rw [if_neg (fun h => h2 h.2)], Kp.refl _ _⟩
    obtain ⟨hb, hw1⟩ := hR
    subst w1
    have h2 := of_decide_eq_true hb
    clear hb
    obtain ⟨m0, rfl⟩ : ∃ m0 : Nat, m = (m0 : Int) := ⟨m.toNat, by omega⟩
    obtain ⟨b, rfl⟩ : ∃ b : Nat, base = (b : Int) := ⟨base.toNat, by omega⟩
    have hcap : cap60 (bmp b m0) ≤ 1152921504606846978 := by unfold cap60; omega
    have hgr : bumR (m0 : Int) (b : Int) = if bmp b m0 ≤ 1152921504606846976 ∧ bigT (lif b m0) = false then .ok (bmp b m0, lif b m0) else .error 5 := by
      unfold bumR
      rw [if_pos ⟨h1, h2⟩, Int.toNat_natCast, Int.toNat_natCast]
    (repeat (first | with_reducible refine W.seq ?_ | with_reducible refine Ops.nil ?_ | with_reducible refine W.region ?_ | refine z_d (kk := ?_)))
    refine Ops.callS rfl rfl rfl rfl rfl (bumped_c m0 (Nat.le_refl _) (by omega) (by omega) (by omega)) ?_
    (repeat (first | with_reducible refine W.seq ?_ | with_reducible refine Ops.nil ?_ | with_reducible refine W.region ?_ | refine z_p (kk := ?_)))
    refine Ops.callP rfl rfl rfl rfl rfl (demand_c _ _ _) (fun r w1 hR => ?_) (fun ch w1 hR => ?_)
    rotate_left
    · obtain ⟨hb, rfl, rfl⟩ := hR
      have h3 := of_decide_eq_false hb
      exact ⟨5, rfl, Kp.refl _ _, by rw [hgr, if_neg (fun h => by have := h.1; unfold cap60 at h3; omega)], Kp.refl _ _⟩
    obtain ⟨hb, hw1⟩ := hR
    subst w1
    have h3 := of_decide_eq_true hb
    have h3' : bmp b m0 ≤ 1152921504606846976 := by unfold cap60 at h3; omega
    have hcb : cap60 (bmp b m0) = bmp b m0 := by unfold cap60; omega
    rw [hcb] at *
    obtain ⟨hsz, hmo⟩ := liftT_c (w := w) (b := b) (m := m0) (by omega) (by omega) (by omega)
    (repeat (first | with_reducible refine W.seq ?_ | with_reducible refine Ops.nil ?_ | with_reducible refine W.region ?_ | refine z_d (kk := ?_)))
    refine Ops.call rfl rfl rfl rfl rfl (lifted_c m0 (Nat.le_refl _) (by omega) (by omega) (by omega)) (fun vl w4 hR => ?_)
    obtain ⟨hM4, hb34⟩ := hR
    skip
    refine Ops.callP rfl rfl rfl rfl rfl (checked_c hM4 (by omega)) (fun vc w5 hR => ?_) (fun ch w5 hR => ?_)
    rotate_left
    · obtain ⟨rfl, hbig, hb45⟩ := hR
      have k05 : Kp (fun _ => False) w w5 := kpF (Below.via hb34 hb45)
      exact ⟨5, rfl, k05.mono (fun _ _ e => e.elim), by rw [hgr, if_neg (fun h => by rw [hbig] at h; cases h.2)], k05⟩
    obtain ⟨rfl, hbig, hb45⟩ := hR
    have hb35 := Below.via hb34 hb45
    refine Ops.call rfl rfl rfl rfl rfl (text_c _ (Nat.le_refl _) (by omega) hmo (hT.below hb35) (hM4.below hb45)) (fun vt w6 hR => ?_)
    obtain ⟨rfl, hb56⟩ := hR
    have hb36 := Below.via hb35 hb56
    have B26 := B2.kp (kpF hb36) (fun e => e)
    have B36 := B3.kp (kpF hb36) (fun e => e)
    (repeat (first | with_reducible refine Ops.nil ?_ | with_reducible refine W.region ?_ | refine z_p (kk := ?_)))
    refine Ops.st rfl rfl rfl rfl rfl rfl rfl B26 (by simp) (fun w8 hu8 => ?_)
    have B28 : Blk w8 b2 #[.int .i64 (bmp b m0 : Int)] 3 := hu8.blk
    have B38 := B36.kp hu8.kp (fun e => h23 e.symm)
    skip
    refine Ops.st rfl rfl rfl rfl rfl rfl rfl B38 (by simp) (fun w9 hu9 => ?_)
    have B39 : Blk w9 b3 #[S (txO (lif b m0))] 9 := hu9.blk
    have B29 := B28.kp hu9.kp (fun e => h23 e)
    (repeat (first | with_reducible refine Ops.nil ?_))
    exact W.fendP rfl ⟨(((kpF hb36).trans hu8.kp).trans hu9.kp).mono (fun i hi q => by rcases q with (q | q) | q; exact q.elim; exact .inl q; exact .inr q), (bmp b m0, lif b m0), by rw [hgr, if_pos ⟨h3', hbig⟩], B29, B39⟩
  · rw [decide_eq_false h1]
    (repeat (first | refine z_p (kk := ?_) | refine z_n (kk := ?_)))
    refine Ops.callP rfl rfl rfl rfl rfl (demand_c _ _ _) (fun r w1 hR => ?_) (fun ch w1 hR => ?_)
    · exact absurd hR.1 (by simp)
    · obtain ⟨hb, rfl, rfl⟩ := hR
      exact ⟨2, rfl, Kp.refl _ _, by unfold bumR; rw [if_neg (fun h => h1 h.1)], Kp.refl _ _⟩
set_option maxHeartbeats 4000000 in
theorem Bumped_c {w : World} {m base : Int} (hT : Tbl w) :
    Calls Tryz.prog 35 #[.int .i64 m, .int .i64 base] w (Ret fun r w' => r = .tuple #[.int .i64 (outN (bumR m base)).1, S (outN (bumR m base)).2, .int .i64 (outE (bumR m base))] ∧ Below w.heap.size w w') := by
  refine calls_W (vs := [_, _]) Tryz.func35 rfl (by kernel_rfl) rfl ?_
  (repeat (first | with_reducible refine W.seq ?_ | with_reducible refine W.region ?_))
  refine Ops.box rfl rfl rfl rfl (fun w1 b0 hM1 => ?_)
  refine Ops.box rfl rfl rfl rfl (fun w2 b1 hM2 => ?_)
  refine Ops.alloc rfl rfl rfl rfl (fun w3 b2 hM3 => ?_)
  refine Ops.alloc rfl rfl rfl rfl (fun w4 b3 hM4 => ?_)
  have hb34 := Mk.bel hM4
  have hb24 := Below.via (Mk.bel hM3) hb34
  have hb14 := Below.via (Mk.bel hM2) hb24
  have hb04 := Below.via (Mk.bel hM1) hb14
  have B0 : Blk w4 b0 #[.int .i64 m] 3 := Blk.kp (w := w1) (hM1.at_) (kpF hb14) (fun e => e)
  have B1 : Blk w4 b1 #[.int .i64 base] 3 := Blk.kp (w := w2) (hM2.at_) (kpF hb24) (fun e => e)
  have B2 : Blk w4 b2 #[.int .i64 0] 3 := Blk.kp (w := w3) (hM3.at_) (kpF hb34) (fun e => e)
  have B3 : Blk w4 b3 #[S []] 9 := hM4.at_
  have e2 := hM3.r_eq
  have e3 := hM4.r_eq
  have s1 := hM1.size
  have s2 := hM2.size
  have s3 := hM3.size
  have s4 := hM4.size
  (repeat (first | with_reducible refine W.seq ?_ | with_reducible refine Ops.nil ?_ | with_reducible refine W.region ?_ | refine z_p (kk := ?_)))
  refine Ops.call rfl rfl rfl rfl rfl (guard_c (F := 81) (caps := [.pointer (some ⟨b0, 0, none⟩), .pointer (some ⟨b1, 0, none⟩), .pointer (some ⟨b2, 0, none⟩), .pointer (some ⟨b3, 0, none⟩)]) (T := fun i => i = b2 ∨ i = b3) (N := fun w1 w' => ∃ x, bumR m base = .ok x ∧ Blk w' b2 #[.int .i64 (x.1 : Int)] 3 ∧ Blk w' b3 #[S (txO x.2)] 9) (E' := fun w1 w' e => bumR m base = .error e ∧ Kp (fun _ => False) w1 w') rfl (fun i h => by omega) (fun w5 hlt hb5 => Bumped1_c (hT.below (Below.via hb04 hb5)) (by omega) (B0.kp (kpF hb5) (fun e => e)) (B1.kp (kpF hb5) (fun e => e)) (B2.kp (kpF hb5) (fun e => e)) (B3.kp (kpF hb5) (fun e => e)))) (fun r w' hR => ?_)
  obtain ⟨w5, w6, hlt, hb5, k56, k67, hor⟩ := hR
  have hfin : ∃ x t e, x = (outN (bumR m base)).1 ∧ t = (outN (bumR m base)).2 ∧ e = outE (bumR m base) ∧ r = .int .i64 e ∧ Blk w' b2 #[.int .i64 x] 3 ∧ Blk w' b3 #[S t] 9 := by
    rcases hor with ⟨rfl, x, h1, C2, C3⟩ | ⟨e, rfl, h1, h2⟩
    · exact ⟨(x.1 : Int), txO x.2, 0, by rw [h1]; rfl, by rw [h1]; rfl, by rw [h1]; rfl, rfl, C2.kp k67 (fun h => by omega), C3.kp k67 (fun h => by omega)⟩
    · exact ⟨0, [], e, by rw [h1]; rfl, by rw [h1]; rfl, by rw [h1]; rfl, rfl, ((B2.kp (kpF hb5) (fun e => e)).kp h2 (fun e => e)).kp k67 (fun h => by omega), ((B3.kp (kpF hb5) (fun e => e)).kp h2 (fun e => e)).kp k67 (fun h => by omega)⟩
  obtain ⟨x, t, e, hx, ht, he, rfl, C2, C3⟩ := hfin
  have hb0' : Below w.heap.size w w' := Below.put (Below.put (Below.via hb04 hb5) k56 (fun i h => by omega)) k67 (fun i h => by omega)
  rw [← hx, ← ht, ← he]
  (repeat (first | with_reducible refine W.seq ?_ | with_reducible refine Ops.nil ?_ | refine z_p (kk := ?_)))
  refine W.ordF (fun wf => Blk wf b2 #[.int .i64 x] 3 ∧ Blk wf b3 #[S t] 9) [0, 1, 2, 3, 4, 5] rfl (by kernel_rfl) rfl (fun _ _ _ h => h) (fun w8 k8 _ => ⟨⟨C2.kp k8 (fun e => e), C3.kp k8 (fun e => e)⟩, ?_⟩)
  have D2 := C2.kp k8 (fun e => e)
  have D3 := C3.kp k8 (fun e => e)
  have hb8 : Below w.heap.size w w8 := Below.put hb0' k8 (fun _ e => e.elim)
  refine OrdF.take (by kernel_rfl) rfl rfl rfl rfl (fun w hF => EV.ld rfl rfl rfl (Blk.cell hF.1 rfl)) ?_
  refine OrdF.take (by kernel_rfl) rfl rfl rfl rfl (fun w hF => EV.ld rfl rfl rfl (Blk.cell hF.2 rfl)) ?_
  refine OrdF.take (by kernel_rfl) rfl rfl rfl rfl (fun w hF => EV.pu rfl) ?_
  refine OrdF.one 3 (by kernel_rfl) rfl (Ops.st rfl rfl rfl rfl rfl rfl rfl D2 (by simp) (fun w9 hu9 => Ops.nil (W.endl ?_)))
  have D29 : Blk w9 b2 #[.int .i64 x] 3 := by simpa using hu9.blk
  have D39 : Blk w9 b3 #[S t] 9 := D3.kp hu9.kp (fun e => by omega)
  refine ⟨⟨D29, D39⟩, ?_⟩
  refine OrdF.one 4 (by kernel_rfl) rfl (Ops.st rfl rfl rfl rfl rfl rfl rfl D39 (by simp) (fun w10 hu10 => Ops.nil (W.endl ?_)))
  have E2 : Blk w10 b2 #[.int .i64 x] 3 := D29.kp hu10.kp (fun e => by omega)
  have E3 : Blk w10 b3 #[S t] 9 := by simpa using hu10.blk
  refine ⟨⟨E2, E3⟩, ?_⟩
  refine OrdF.take (by kernel_rfl) rfl rfl rfl rfl (fun w hF => EV.pu rfl) ?_
  refine OrdF.done (by kernel_rfl) ?_
  skip
  exact W.fretW (vs := [_, _, _]) ⟨_, _, rfl, ⟨b2, 0, _, 3, rfl, rfl, E2, rfl⟩, _, _, rfl, ⟨b3, 0, _, 9, rfl, rfl, E3, rfl⟩, _, _, rfl, rfl, rfl⟩
    ⟨rfl, Below.put (Below.put hb8 hu9.kp (fun i h => by omega)) hu10.kp (fun i h => by omega)⟩
def numO (n : Nat) : Od := ptO .nil n .nil
theorem number82_c {w : World} {n : Nat} (hn : n ≤ 1000000) : Calls Tryz.prog 82 #[.int .i64 (n : Int)] w (Ret fun r w' => OM (fun i => i < w.heap.size) w' r (numO n) ∧ Below w.heap.size w w') := by
  refine calls_W (vs := [_]) Tryz.func82 rfl (by kernel_rfl) rfl ?_
  (repeat (first | with_reducible refine W.seq ?_ | with_reducible refine Ops.nil ?_ | with_reducible refine W.region ?_ | refine z_p (kk := ?_)))
  by_cases h0 : n = 0
  · subst h0
    refine W.condT rfl (by first | rfl | assumption | (simp only [bnf] <;> omega) | (simp only [*, bnf]; done) | fail) ?_
    (repeat (first | with_reducible refine W.seq ?_ | with_reducible refine Ops.nil ?_ | with_reducible refine W.region ?_ | refine z_p (kk := ?_)))
    exact W.fret rfl ⟨OM.nil, Below.refl _ _⟩
  · refine W.condF rfl (by first | rfl | assumption | (simp only [bnf] <;> omega) | (simp only [*, bnf]; done) | fail) ?_
    (repeat (first | with_reducible refine W.seq ?_ | with_reducible refine W.region ?_ | refine z_p (kk := ?_) | with_reducible refine W.skip ?_))
    refine Ops.bld2 rfl rfl rfl rfl rfl rfl rfl rfl rfl ?_
    refine Ops.bsG (cs := #[.slice none 0 0, .int .i64 (n : Int)]) (vs := [(0, .agg #[.slice none 0 0, .int .i64 (n : Int)])]) rfl rfl rfl rfl rfl rfl rfl rfl rfl (by simp [Instr.fill, Value.cells, show Array.range 2 = #[0, 1] from rfl]) (fun w1 r hM => ?_)
    have e1 := hM.r_eq
    have B1 : Blk w1 r #[.slice none 0 0, .int .i64 (n : Int)] 119 := hM.at_
    (repeat (first | with_reducible refine Ops.nil ?_ | refine z_p (kk := ?_)))
    refine W.fret rfl ⟨⟨[(.slice none 0 0, n)], ⟨_, _, rfl, ⟨Nat.le_refl _, by simp⟩, fun _ => ⟨_, rfl, by simp; omega, fun j hj => ?_⟩⟩, ?_⟩, Mk.bel hM⟩
    · simp at hj
      subst hj
      exact ⟨B1.cell rfl, B1.cell rfl⟩
    · rw [numO, ptO, if_pos (by omega)]
      exact ⟨.slice none 0 0, [], [], rfl, R2.nil, rfl, rfl⟩
def numR (n : Int) : Except Int Nat := if 0 ≤ n ∧ n ≤ 1000 then .ok n.toNat else .error 2
def outM : Except Int Nat → List UInt8
  | .ok n => txO (numO n)
  | .error _ => []
theorem Number_c {w : World} {n : Int} (hT : Tbl w) : Calls Tryz.prog 36 #[.int .i64 n] w (Ret fun r w' => r = .tuple #[S (outM (numR n)), .int .i64 (outE (numR n))] ∧ Below w.heap.size w w') := by
  refine calls_W (vs := [_]) Tryz.func36 rfl (by kernel_rfl) rfl ?_
  (repeat (first | with_reducible refine W.seq ?_ | with_reducible refine Ops.nil ?_ | with_reducible refine W.region ?_ | refine z_p (kk := ?_)))
  refine Ops.callS rfl rfl rfl rfl rfl (within_c _ _ _ _) ?_
  (repeat (first | with_reducible refine Ops.nil ?_ | refine z_p (kk := ?_)))
  by_cases h1 : 0 ≤ n ∧ n ≤ 1000
  · rw [decide_eq_true h1]
    have hr : numR n = .ok n.toNat := if_pos h1
    obtain ⟨m, rfl⟩ : ∃ m : Nat, n = (m : Int) := ⟨n.toNat, by omega⟩
    rw [Int.toNat_natCast] at hr
    rw [hr]
    skip
    refine W.condF rfl (by first | rfl | assumption | (simp only [bnf] <;> omega) | (simp only [*, bnf]; done) | fail) ?_
    (repeat (first | with_reducible refine W.seq ?_ | with_reducible refine W.region ?_ | refine z_p (kk := ?_) | with_reducible refine W.skip ?_))
    refine Ops.call rfl rfl rfl rfl rfl (number82_c (by omega)) (fun v w1 hR => ?_)
    obtain ⟨hM, hb1⟩ := hR
    have hz : szO (numO m) ≤ 1 := by unfold numO ptO; split <;> simp [szO]
    have hm : mostO (numO m) ≤ 1000 := by unfold numO ptO; split <;> simp [mostO] <;> omega
    skip
    refine Ops.call rfl rfl rfl rfl rfl (text_c _ (Nat.le_refl _) (by omega) (by omega) (hT.below hb1) hM) (fun r w2 hR => ?_)
    obtain ⟨rfl, hb2⟩ := hR
    (repeat (first | with_reducible refine Ops.nil ?_ | refine z_p (kk := ?_)))
    exact W.fret rfl ⟨rfl, Below.via hb1 hb2⟩
  · rw [decide_eq_false h1]
    have hr : numR n = .error 2 := if_neg h1
    rw [hr]
    skip
    refine W.condT rfl (by first | rfl | assumption | (simp only [bnf] <;> omega) | (simp only [*, bnf]; done) | fail) ?_
    (repeat (first | with_reducible refine W.seq ?_ | with_reducible refine Ops.nil ?_ | with_reducible refine W.region ?_ | refine z_p (kk := ?_)))
    exact W.fret rfl ⟨rfl, Below.refl _ _⟩
end Go.Proofs.YtcmjlmnfdncajaaGreatDoor
