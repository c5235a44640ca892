/- A part of the walk: what this seat's statements share. -/
import Derived.Test.YtehjmakiljhjdaaZG12
import Derived.Test.YtehjmakiljhjdaaZG3
import Derived.Test.YtehjmakiljhjdaaZG4
import Derived.Test.YtehjmakiljhjdaaZG13
import Derived.Test.YtehjmakiljhjdaaZG10
import Derived.Test.YtehjmakiljhjdaaZG9
import Derived.Test.YtehjmakiljhjdaaZG11
import Derived.Test.YtehjmakiljhjdaaZG8
set_option linter.unusedVariables false
set_option linter.unusedSimpArgs false
set_option linter.unusedSectionVars false
namespace Go.Proofs.Ytehjmakiljhjdaa
open Go Go.RowKit Go.Proofs.Ytehjmakiljhjdaa.VW
attribute [local irreducible] W Ops OrdA VW.Ord OrdX
theorem wrapU {n : Nat} (h : n ≤ 60) : IntKind.u64.wrap (n : Int) = n := by
  simp only [IntKind.wrap, IntKind.bits, IntKind.signed]
  simp
  omega
theorem mul64_c (n : Nat) (hn : n < 61) (w : World) : Calls Try.prog 112 #[.int .u64 1, .int .u64 n] w (Ret fun r w' => r = .tuple #[.int .u64 0, .int .u64 n] ∧ w' = w) := by
  refine calls_W (vs := [_, _]) Try.func112 rfl (by kernel_rfl) rfl ?_
  (repeat (first | with_reducible refine W.seq ?_ | with_reducible refine Ops.nil ?_ | with_reducible refine W.region ?_ | refine z_p (kk := ?_) | refine Ops.evG rfl rfl rfl (EV.bw rfl rfl rfl rfl) ?_ | refine Ops.evG rfl rfl rfl (EV.bsh rfl rfl rfl rfl) ?_))
  refine W.fret rfl ⟨?_, rfl⟩
  refine congr (congrArg (fun a b => Value.tuple #[.int .u64 a, .int .u64 b]) ?_) ?_
  · clear w
    obtain ⟨m, rfl⟩ : ∃ m : Fin 61, n = m.val := ⟨⟨n, hn⟩, rfl⟩
    clear hn
    revert m
    decide +kernel
  · clear w
    obtain ⟨m, rfl⟩ : ∃ m : Fin 61, n = m.val := ⟨⟨n, hn⟩, rfl⟩
    clear hn
    revert m
    decide +kernel
theorem mul_c (n : Nat) (hn : n < 61) (w : World) : Calls Try.prog 94 #[.int .u64 1, .int .u64 n] w (Ret fun r w' => r = .tuple #[.int .u64 0, .int .u64 n] ∧ w' = w) := by
  refine calls_W (vs := [_, _]) Try.func94 rfl (by kernel_rfl) rfl ?_
  (repeat (first | with_reducible refine W.seq ?_ | with_reducible refine Ops.nil ?_ | with_reducible refine W.region ?_ | refine z_p (kk := ?_)))
  refine W.condF rfl (by first | rfl | assumption | (simp only [bnf] <;> omega) | (simp only [*, bnf]; done) | fail) ?_
  (repeat (first | with_reducible refine W.seq ?_ | with_reducible refine W.region ?_ | refine z_p (kk := ?_) | with_reducible refine W.skip ?_))
  refine Ops.callS rfl rfl rfl rfl rfl (mul64_c n hn w) ?_
  (repeat (first | with_reducible refine W.seq ?_ | with_reducible refine Ops.nil ?_ | with_reducible refine W.region ?_ | refine z_p (kk := ?_)))
  exact W.fret rfl ⟨rfl, rfl⟩
set_option maxHeartbeats 1000000 in
theorem repeat_c {w : World} {v : Value} {n : Nat} (hv : SlI w v [-1]) (h1 : 1 ≤ n) (hn : n ≤ 60) : Calls Try.prog 78 #[v, .int .i64 n] w (Ret fun r w' => OI 3 (Value.int .i64) w w' r (List.replicate n (-1))) := by
  obtain ⟨A, c, rfl⟩ := Sl.shape hv
  refine calls_W (vs := [_, _]) Try.func78 rfl (by kernel_rfl) rfl ?_
  (repeat (first | with_reducible refine W.seq ?_ | with_reducible refine Ops.nil ?_ | with_reducible refine W.region ?_ | refine z_p (kk := ?_)))
  refine W.condF rfl (by first | rfl | assumption | (simp only [bnf] <;> omega) | (simp only [*, bnf]; done) | fail) ?_
  (repeat (first | with_reducible refine W.seq ?_ | with_reducible refine W.region ?_ | refine z_p (kk := ?_) | with_reducible refine W.skip ?_ | refine z_l (kk := ?_)))
  refine Ops.cv rfl rfl rfl rfl rfl rfl ?_
  (repeat (first | refine z_p (kk := ?_)))
  refine Ops.cv rfl rfl rfl rfl rfl rfl ?_
  rw [wrapU hn, show IntKind.u64.wrap (([-1] : List Int).length : Int) = 1 from rfl]
  skip
  refine Ops.callS rfl rfl rfl rfl rfl (mul_c n (by omega) w) ?_
  (repeat (first | with_reducible refine W.seq ?_ | with_reducible refine Ops.nil ?_ | with_reducible refine W.region ?_ | refine z_p (kk := ?_) | refine z_y (kk := ?_)))
  refine W.condF rfl (by first | rfl | assumption | (simp only [bnf] <;> omega) | (simp only [*, bnf]; done) | fail) ?_
  (repeat (first | with_reducible refine W.seq ?_ | with_reducible refine W.region ?_ | refine z_p (kk := ?_) | with_reducible refine W.skip ?_))
  refine Ops.cv rfl rfl rfl rfl rfl rfl ?_
  rw [wrap_in ⟨by omega, by omega⟩]
  refine Ops.mkO (w0 := w) (Value.int .i64) 0 rfl rfl rfl rfl rfl rfl rfl rfl rfl (by omega) rfl (Below.refl _ _) (fun w2 dr hO2 k2 _ => ?_)
  (repeat (first | with_reducible refine W.seq ?_ | with_reducible refine Ops.nil ?_ | with_reducible refine W.region ?_ | refine z_p (kk := ?_)))
  have hl2 : (List.replicate n (0 : Int)).length = n := by simp
  generalize List.replicate n (0 : Int) = os2 at *
  refine Ops.cpO (enc := Value.int .i64) (z := 0) rfl rfl rfl rfl rfl rfl rfl hO2 (Sl.kp hv k2 (fun _ _ e => e)) (by simp) (by omega) (fun _ => rfl) (fun w3 hO3 k3 _ => ?_)
  have hmin : min ([-1] : List Int).length n = 1 := by simp; omega
  rw [hmin] at hO3
  rw [hmin]
  have hO3' : ∃ os : List Int, OI 3 (Value.int .i64) w w3 (.slice (some ⟨dr, 0, none⟩) n n) os ∧ os.length = n ∧ ∀ j, j < 1 → os.getD j 0 = -1 := ⟨_, hO3, by simp [hl2]; omega, fun j hj => by
    have : j = 0 := by omega
    subst this
    obtain ⟨m, rfl⟩ : ∃ m, n = m + 1 := ⟨n - 1, by omega⟩
    simp⟩
  clear hO3 hO2 k2 k3 hl2
  obtain ⟨os3, hO3, hl3, hv3⟩ := hO3'
  (repeat (first | with_reducible refine W.seq ?_ | with_reducible refine Ops.nil ?_ | refine z_p (kk := ?_) | with_reducible refine W.block ?_))
  refine W.loop (fun m ρ w4 => ∃ (k : Nat) (os : List Int), m = n - k ∧ 1 ≤ k ∧ k ≤ n ∧ ρ = [(7, .slice (some ⟨dr, 0, none⟩) n n), (8, .int .i64 k)] ∧ OI 3 (Value.int .i64) w w4 (.slice (some ⟨dr, 0, none⟩) n n) os ∧ os.length = n ∧ ∀ j, j < k → os.getD j 0 = -1)
    ⟨_, _, ⟨1, os3, rfl, Nat.le_refl _, h1, rfl, hO3, hl3, hv3⟩, (by repeat (first | exact trivial | refine And.intro rfl ?_))⟩ ?_
  clear hO3 hl3 hv3
  rintro m ρ w4 ⟨k, os, rfl, hk1, hkn, rfl, hO, hol, hvs⟩
  (repeat (first | with_reducible refine W.seq ?_ | with_reducible refine Ops.nil ?_ | with_reducible refine W.region ?_ | refine z_p (kk := ?_) | refine z_l (kk := ?_)))
  (first | refine W.condD rfl (fun hc => ?_) (fun hc => ?_) | refine W.condE rfl (fun hc => ?_) (fun hc => ?_) | refine W.condN rfl (fun hc => ?_) (fun hc => ?_) | refine W.cond rfl (fun hc => ?_) (fun hc => ?_))
  · (repeat (first | with_reducible refine W.skip ?_ | with_reducible refine W.block ?_))
    refine W.ordA 7 [(0, 1), (1, 1), (2, 1), (3, 1), (4, 1), (5, 1), (6, 1), (7, 0), (8, 1), (9, 1)] rfl (by kernel_rfl) rfl (by kernel_rfl) (fun _ _ _ h => h) ?_
    (repeat (first | refine x_p (kk := ?_)))
    refine OrdA.pure rfl rfl rfl rfl (fun _ => EV.slO rfl rfl rfl rfl rfl (by omega) (by omega) (Nat.le_refl _)) ?_
    (repeat (first | refine x_p (kk := ?_)))
    refine OrdA.pure rfl rfl rfl rfl (fun _ => EV.slH rfl rfl rfl rfl rfl (by omega) (by omega)) ?_
    rw [Int.toNat_natCast]
    refine OrdA.eff rfl (fun w5 hb5 => ?_)
    have hO5 := hO.below hb5
    have hs5 : SlI w5 (.slice (some ⟨dr, 0, none⟩) k n) (os.take k) := sl_take (m := n) hO5.sl k (by omega)
    have hlk : (os.take k).length = k := by simp; omega
    refine Ops.cpO (enc := Value.int .i64) (z := 0) rfl rfl rfl rfl rfl rfl rfl hO5 hs5 (by omega) (by omega) (fun _ => rfl) (fun w6 hO6 k6 _ => Ops.nil (W.endl ?_))
    rw [hlk] at hO6 ⊢
    have hlen6 : (os.take k ++ (os.take k).take (n - k) ++ os.drop (k + min k (n - k))).length = n := by simp; omega
    have hv6 : ∀ j, j < k + min k (n - k) → (os.take k ++ (os.take k).take (n - k) ++ os.drop (k + min k (n - k))).getD j 0 = -1 := fun j hj => by
      have hl : (os.take k ++ (os.take k).take (n - k)).length = k + min k (n - k) := by simp; omega
      rw [List.getD_eq_getElem?_getD, List.getElem?_append_left (by omega)]
      by_cases e : j < k
      · rw [List.getElem?_append_left (by omega), List.getElem?_take, if_pos e, ← List.getD_eq_getElem?_getD]
        exact hvs j e
      · rw [List.getElem?_append_right (by omega), hlk, List.take_take, List.getElem?_take, if_pos (by omega), ← List.getD_eq_getElem?_getD]
        exact hvs _ (by omega)
    (repeat (first | refine y_p (kk := ?_) | refine y_a (kk := ?_)))
    refine VW.Ord.nil ?_
    rw [show (k : Int) + ((min k (n - k) : Nat) : Int) = ((k + min k (n - k) : Nat) : Int) by omega]
    (repeat (first | with_reducible refine W.endb ?_))
    exact W.endl ⟨_, _, ⟨⟨k + min k (n - k), _, rfl, by omega, by omega, rfl, hO6, hlen6, hv6⟩, by omega⟩, (by repeat (first | exact trivial | refine And.intro rfl ?_))⟩
  · have hkn2 : k = n := by omega
    subst hkn2
    have hos : os = List.replicate k (-1) := by
      apply List.ext_getElem (by simp [hol])
      intro j h1 h2
      have := hvs j (by omega)
      rw [List.getD_eq_getElem?_getD, List.getElem?_eq_getElem h1] at this
      simpa using this
    rw [hos] at hO
    (repeat (first | with_reducible refine W.seq ?_ | with_reducible refine Ops.nil ?_ | with_reducible refine W.region ?_ | refine z_p (kk := ?_) | refine W.exit rfl ?_))
    exact W.fret rfl hO
end Go.Proofs.Ytehjmakiljhjdaa
namespace Go.Proofs.Ytehjmakiljhjdaa.VW
open Go Go.RowKit
theorem fl2_snoc {fa fb : Int → Value} {z : Int} : ∀ os : List Int, fl2 fa fb (os ++ [z]) = fl2 fa fb os ++ [fa z, fb z]
  | [] => rfl
  | x :: r => by simp only [List.cons_append, fl2, fl2_snoc r]
section
variable {P : Program} [hT : Tab P] {n : Nat} {ds : List Deferred} {Φ : Post} {k : List It} {ρ : E} {w : World} {all : Array Oper} {l : List Oper} {md : Option (List Oper)}
theorem Ops.bldA2 {o : Oper} {d t e : Nat} {x y : Operand} {u v z0 z1 : Value} (ho : o.op = .build t #[(0, x), (1, y)]) (hd : o.dst = some d) (hg : o.guard = none)
    (ht : tyD P t = some (.array 2 e)) (hs : tyS P e = some 1) (hz : tyZ P t = some (.agg #[z0, z1])) (hx : ev ρ x = some u) (hy : ev ρ y = some v) (h1 : u.oneCell' = true) (h2 : v.oneCell' = true)
    (kk : Ops md P n ds all k Φ l ((d, .agg #[u, v]) :: ρ) w) : Ops md P n ds all k Φ (o :: l) ρ w := by
  refine Ops.valS hd hg (fun a hr => ?_) kk
  have hcs : u.cells = #[u] := by cases u <;> simp_all [Value.oneCell', Value.cells]
  have hcs2 : v.cells = #[v] := by cases v <;> simp_all [Value.oneCell', Value.cells]
  have hzc : (Value.agg #[z0, z1]).cells = #[z0, z1] := rfl
  simp [execOp, ho, hr.ev hx, hr.ev hy, Instr.build, run_zeroV hz, run_und (td_array (tyD_ok ht)), run_sizeOf hs, Instr.fill, hzc, hcs, hcs2]
/-- append(s, [2]..{a, b}) at a row of elements of two cells. -/
theorem Ops.pushJ {fa fb : Int → Value} {w0 : World} {o1 o2 : Oper} {d1 d2 t e by' : Nat} {x y : Operand} {z : Int} {lv z0 z1 : Value} {os : List Int}
    (h1 : o1.op = .buildSlice t 1 #[(0, x)]) (hd1 : o1.dst = some d1) (hg1 : o1.guard = none) (h2 : o2.op = .call { callee := .builtin .append, args := #[y, .tmp d1], argTypes := #[t, t] }) (hd2 : o2.dst = some d2) (hg2 : o2.guard = none)
    (ht : tyD P t = some (.slice e)) (hs : tyS P e = some 2) (hb : tyB P e = some (by' + 1)) (hz : tyZ P e = some (.agg #[z0, z1])) (hx : ev ρ x = some (.agg #[fa z, fb z])) (hy : ∀ p, ev ((d1, p) :: ρ) y = some lv) (ha : (fa z).oneCell' = true) (hb1 : (fb z).oneCell' = true)
    (hO : OJ e fa fb w0 w lv os) (hbytes : (os.length + 1) * (by' + 1) ≤ 140737488355328)
    (hk : ∀ lv' p w', OJ e fa fb w0 w' lv' (os ++ [z]) → Kp (fun i => lv.ownBlock = some i) w w' → (∀ i, lv'.ownBlock = some i → lv.ownBlock = some i ∨ w.heap.size ≤ i) → Ops none P n ds all k Φ l ((d2, lv') :: (d1, p) :: ρ) w') : Ops none P n ds all k Φ (o1 :: o2 :: l) ρ w :=
  Ops.push2 h1 hd1 hg1 h2 hd2 hg2 ht hs hb hz hx hy ha hb1 hO.own hbytes (fun lv' p w' hown k1 hn => hk lv' p w' ⟨Below.put hO.bel k1 (fun i hi => hO.ge i hi), by rw [fl2_snoc, List.length_append, List.length_singleton]; exact hown, fun i hi => by rcases hn i hi with e | e; exact hO.ge i e; have := hO.bel.size; omega⟩ k1 hn)
end
end Go.Proofs.Ytehjmakiljhjdaa.VW
/- Plain: the pairs in order, and taking them greedily. -/
namespace Go.Proofs.Ytehjmakiljhjdaa
open Go Go.RowKit Go.Proofs.Ytehjmakiljhjdaa.VW
def prC (i j : Nat) : Int := ((7 * i + j : Nat) : Int)
theorem prC_a {i j : Nat} (h : j < 7) : prC i j / 7 = i ∧ prC i j % 7 = j := by unfold prC; omega
/-- The pairs before the pair (i, j). -/
def zsP (n : Nat) : Nat → Nat → List Int
  | 0, j => (List.range j).map (prC 0)
  | i + 1, j => zsP n i n ++ (List.range j).map (prC (i + 1))
theorem zsP_snoc {n : Nat} : ∀ i j, zsP n i (j + 1) = zsP n i j ++ [prC i j]
  | 0, j => by simp [zsP, List.range_succ]
  | i + 1, j => by simp [zsP, List.range_succ]
theorem zsP_next {n : Nat} (i : Nat) : zsP n (i + 1) 0 = zsP n i n := by simp [zsP]
theorem zsP_len {n : Nat} : ∀ i j, (zsP n i j).length = n * i + j
  | 0, j => by simp [zsP]
  | i + 1, j => by simp [zsP, zsP_len i n, Nat.mul_add]
/-- The next pair, taken or not. -/
def grS (g : List Int) (z : Int) : List Int := if g.getD (z / 7).toNat 0 < 0 ∧ ¬ (z % 7 ∈ g) then g.set (z / 7).toNat (z % 7) else g
theorem grS_len (g : List Int) (z : Int) : (grS g z).length = g.length := by unfold grS; split <;> simp
def grF (os : List Int) (g : List Int) : List Int := os.foldl grS g
theorem grF_snoc (os : List Int) (z : Int) (g : List Int) : grF (os ++ [z]) g = grS (grF os g) z := by simp [grF]
theorem grF_len : ∀ (os g : List Int), (grF os g).length = g.length
  | [], g => rfl
  | z :: r, g => by
    have := grF_len r (grS g z)
    rw [grS_len] at this
    exact this
end Go.Proofs.Ytehjmakiljhjdaa
namespace Go.Proofs.Ytehjmakiljhjdaa
open Go Go.RowKit Go.Proofs.Ytehjmakiljhjdaa.VW
open Go.Proofs.Ytehjmakiljhjdaa.HP (SegP SortK)
attribute [local irreducible] W Ops OrdA VW.Ord OrdX Wi OpsI OrdF
def kG (c : List (List Int)) (z : Int) : Int := ceA c z * 49 + z
theorem zsP_get {n : Nat} (hn : 0 < n) : ∀ (i j r : Nat), j ≤ n → r < n * i + j → (zsP n i j).getD r 0 = prC (r / n) (r % n)
  | 0, j, r, hj, hr => by
    have h1 : r < j := by omega
    rw [Nat.div_eq_of_lt (by omega), Nat.mod_eq_of_lt (by omega)]
    simp [zsP, List.getD_eq_getElem?_getD, h1]
  | i + 1, j, r, hj, hr => by
    rw [Nat.mul_add, Nat.mul_one] at hr
    have hl := zsP_len (n := n) i n
    simp only [zsP]
    by_cases h : r < n * i + n
    · rw [← zsP_get hn i n r (Nat.le_refl _) h]
      simp [List.getD_eq_getElem?_getD, List.getElem?_append_left (show r < (zsP n i n).length by omega)]
    · obtain ⟨t, rfl⟩ : ∃ t, r = n * i + n + t := ⟨r - (n * i + n), by omega⟩
      have ht : t < j := by omega
      have e1 : (n * i + n + t) / n = i + 1 := by
        rw [show n * i + n + t = t + n * (i + 1) by rw [Nat.mul_add]; omega, Nat.add_mul_div_left _ _ hn, Nat.div_eq_of_lt (by omega)]; omega
      have e2 : (n * i + n + t) % n = t := by
        rw [show n * i + n + t = t + n * (i + 1) by rw [Nat.mul_add]; omega, Nat.add_mul_mod_self_left, Nat.mod_eq_of_lt (by omega)]
      rw [e1, e2]
      simp only [List.getD_eq_getElem?_getD]
      rw [List.getElem?_append_right (by omega), hl, show n * i + n + t - (n * i + n) = t by omega]
      simp [ht]
theorem prC_mono {n p q : Nat} (hn : 0 < n) (h7 : n ≤ 7) (h : p < q) (hq : q < n * n) : prC (p / n) (p % n) < prC (q / n) (q % n) ∧ 0 ≤ prC (p / n) (p % n) ∧ prC (q / n) (q % n) < 49 := by
  have a1 := Nat.div_add_mod p n
  have a2 := Nat.div_add_mod q n
  have b1 := Nat.mod_lt p hn
  have b2 := Nat.mod_lt q hn
  have c1 : p / n ≤ q / n := Nat.div_le_div_right (by omega)
  have c2 : q / n < n := Nat.div_lt_of_lt_mul hq
  unfold prC
  by_cases e : p / n = q / n
  · rw [e] at a1 ⊢
    omega
  · omega
theorem prC_prI {c : List (List Int)} {p : Nat} (hn : 0 < c.length) (h7 : c.length ≤ 7) (h : p < c.length * c.length) : prI c (prC (p / c.length) (p % c.length)) := by
  have b1 := Nat.mod_lt p hn
  have c2 : p / c.length < c.length := Nat.div_lt_of_lt_mul h
  obtain ⟨t1, t2⟩ := prC_a (i := p / c.length) (j := p % c.length) (by omega)
  unfold prI
  rw [t1, t2]
  clear t1 t2
  exact ⟨⟨Int.natCast_nonneg _, by exact_mod_cast c2⟩, Int.natCast_nonneg _, by exact_mod_cast b1⟩
set_option maxHeartbeats 4000000 in
theorem Greedy_c {w : World} {cv : Value} {c : List (List Int)} (hM : RowsM w cv c) :
    Calls Try.prog 45 #[cv] w (Ret fun r w' => Below w.heap.size w w' ∧ (costsB c = false → r = .tuple #[.slice none 0 0, .int .i64 2]) ∧ (costsB c = true → ∃ v os, r = .tuple #[v, .int .i64 0] ∧ os.Perm (zsP c.length c.length 0) ∧ SortK (kG c) os 0 os.length ∧ OI 3 (Value.int .i64) w w' v (grF os (List.replicate c.length (-1))))) := by
  obtain ⟨Ac, cc, rfl⟩ := hM.sl
  refine calls_W (vs := [_]) Try.func45 rfl (by kernel_rfl) rfl ?_
  (repeat (first | with_reducible refine W.seq ?_ | with_reducible refine W.region ?_))
  refine Ops.box rfl rfl rfl rfl (fun w1 b1 hM1 => ?_)
  have hb1 := Mk.bel hM1
  have B1 : Blk w1 b1 #[.slice Ac c.length cc] 22 := hM1.at_
  have e1 := hM1.r_eq
  have s1 := hM1.size
  have hM1' := hM.below hb1
  have hb11 : Below w1.heap.size w1 w1 := Below.refl _ _
  (repeat (first | with_reducible refine W.seq ?_ | with_reducible refine Ops.nil ?_ | with_reducible refine W.region ?_ | refine z_p (kk := ?_) | refine z_d (kk := ?_)))
  refine Ops.call rfl rfl rfl rfl rfl (areCosts_c hM1') (fun r w2 hR => ?_)
  obtain ⟨rfl, hb2⟩ := hR
  cases hc : costsB c with
  | false =>
    (repeat (first | with_reducible refine Ops.nil ?_ | refine z_p (kk := ?_)))
    refine W.condT rfl (by first | rfl | assumption | (simp only [bnf] <;> omega) | (simp only [*, bnf]; done) | fail) ?_
    (repeat (first | with_reducible refine W.seq ?_ | with_reducible refine Ops.nil ?_ | with_reducible refine W.region ?_ | refine z_p (kk := ?_)))
    exact W.fret rfl ⟨Below.via hb1 hb2, fun _ => rfl, fun h => by cases h⟩
  | true =>
    have hC := costs_iff.1 hc
    have hn7 := hC.n7
    have hn1 := hC.n1
    (repeat (first | with_reducible refine Ops.nil ?_ | refine z_p (kk := ?_)))
    refine W.condF rfl (by first | rfl | assumption | (simp only [bnf] <;> omega) | (simp only [*, bnf]; done) | fail) ?_
    (repeat (first | with_reducible refine W.seq ?_ | with_reducible refine W.region ?_ | with_reducible refine W.skip ?_))
    refine Ops.alloc rfl rfl rfl rfl (fun w3 b4 hM4 => ?_)
    have e4 := hM4.r_eq
    have s4 := hM4.size
    have h12s := hb2.size
    have B4 : Blk w3 b4 #[.slice none 0 0] 100 := hM4.at_
    have hb13 : Below w1.heap.size w1 w3 := Below.via hb2 (Mk.bel hM4)
    have B13 : Blk w3 b1 #[.slice Ac c.length cc] 22 := B1.kp (Kp.of_below (S := fun _ => False) hb13) (fun e => e)
    have hb33 : Below w3.heap.size w3 w3 := Below.refl _ _
    refine Ops.nil ?_
    refine W.toJ (JW.seq (by exact rfl) ?_)
    (repeat (first | with_reducible refine W.region ?_ | refine z_d (kk := ?_)))
    refine Ops.call rfl rfl rfl rfl rfl pairs_c (fun rv wE hR => ?_)
    obtain ⟨b89, rfl, hB89, hge89, hlE⟩ := hR
    have hB89' : Blk wE b89 #[.slice Ac c.length cc] 71 := hB89
    have B1E : Blk wE b1 #[.slice Ac c.length cc] 22 := B13.kp (Kp.of_below (S := fun _ => False) hlE) (fun e => e)
    have B4E : Blk wE b4 #[.slice none 0 0] 100 := B4.kp (Kp.of_below (S := fun _ => False) hlE) (fun e => e)
    have hb0E := Below.via (Below.via hb1 hb13) hlE
    have g1 := B1E.lt
    have g4 := B4E.lt
    have g89 := hB89'.lt
    refine Ops.nil (W.endl ?_)
    have hge : b4 < w3.heap.size := B4.lt
    refine JW.sub (ρ' := [(1, .pointer (some ⟨b1, 0, none⟩)), (4, .pointer (some ⟨b4, 0, none⟩)), (14, .func (.func 89) #[] #[.pointer (some ⟨b89, 0, none⟩)])]) (by repeat (first | exact trivial | refine And.intro rfl ?_)) ?_
    refine JW.pairs (b1 := b89) (n := c.length) (A := Ac) (cap := cc) (I := fun i j W => Kp (fun k => k = b4) wE W ∧ ∃ v, Blk W b4 #[v] 100 ∧ OJ 37 fA fB w W v (zsP c.length i j) ∧ ∀ k, v.ownBlock = some k → wE.heap.size + 1 < k)
      (K := fun W => False) (by omega) rfl (by exact rfl) (by exact rfl) (by exact rfl) (fun i j W h => hB89'.kp h.1 (fun e => by omega)) (fun i W hi h => by rw [zsP_next]; exact h)
      (fun i j W W' h hk => ?_) (fun W W' h hk => h.elim) ⟨Kp.refl _ _, _, B4E, OJ.nil hb0E, fun k hk => by simp [Value.ownBlock] at hk⟩ (fun L i j wp hL h hi hj hW => ?_) (fun D w9 hD h hdf => ?_) (fun D w9 hD h hdf => h.elim)
    · obtain ⟨q0, v, q1, q2, q3⟩ := h
      refine ⟨(q0.trans hk).mono (fun k hk2 e => by omega), v, q1.kp hk (fun e => by omega), q2.kp hk (fun k e => ⟨by have := hb0E.size; omega, fun e2 => by have := q3 k e2; omega⟩), q3⟩
    · refine Wi.seq (Wi.regionN rfl rfl ?_)
      (repeat (first | with_reducible refine Ops.nil ?_ | refine z_p (kk := ?_)))
      refine W.endl ?_
      refine Wi.regionN rfl rfl ?_
      (repeat (first | with_reducible refine Ops.nil ?_ | refine z_p (kk := ?_)))
      refine W.endl ⟨rfl, rfl, fun wq h' hq => ?_⟩
      obtain ⟨q0, v, q1, q2, q3⟩ := h'
      have hpa := prC_a (i := i) (j := j) (by omega)
      have hzl := zsP_len (n := c.length) i j
      have hmul : c.length * i ≤ 7 * 7 := Nat.mul_le_mul hn7 (by omega)
      have hbqq : Below wq.heap.size wq wq := Below.refl _ _
      refine Wi.block (Wi.regionN rfl rfl ?_)
      (repeat (first | refine z_p (kk := ?_) | refine z_d (kk := ?_)))
      refine Ops.bldA2 rfl rfl rfl rfl rfl rfl rfl rfl rfl rfl ?_
      refine Ops.pushJ (fa := fA) (fb := fB) (z := prC i j) rfl rfl rfl rfl rfl rfl rfl rfl rfl rfl (by unfold fA fB; rw [hpa.1, hpa.2]; rfl) (fun _ => rfl) rfl rfl q2 (by omega) (fun v9 p w9 hO9 k9 hn9 => ?_)
      have q1' : Blk w9 b4 #[v] 100 := q1.kp k9 (fun e => by have := q3 _ e; omega)
      have hone : v9.oneCell' = true := by rcases hO9.own.2 with ⟨e, _⟩ | ⟨g, cap, cur, e, _⟩ <;> (rw [e]; rfl)
      refine Ops.st rfl rfl rfl rfl rfl rfl hone q1' (by simp) (fun wt hut => Ops.nil (W.endl ?_))
      have hnw : ∀ k, v9.ownBlock = some k → wE.heap.size + 1 < k := fun k hk => by
        rcases hn9 k hk with e | e
        · exact q3 k e
        · omega
      have sz9 := k9.size
      refine ⟨(k9.trans hut.kp).mono (fun k hk e => by rcases e with e | e; have := q3 k e; omega; omega), .inl ⟨rfl, ((q0.trans k9).trans hut.kp).mono (fun k hk e => by rcases e with (e | e) | e; exact e; have := q3 k e; omega; exact e), v9, by simpa using hut.blk, ?_, hnw⟩⟩
      rw [zsP_snoc]
      exact hO9.kp hut.kp (fun k e => ⟨by have := hb0E.size; omega, fun e2 => by have := hnw k e2; omega⟩)
    · obtain ⟨q0, v, q1, q2, q3⟩ := h
      have hb99 : Below w9.heap.size w9 w9 := Below.refl _ _
      have B19 : Blk w9 b1 #[.slice Ac c.length cc] 22 := B1E.kp q0 (fun e => by omega)
      (repeat (first | with_reducible refine W.seq ?_ | with_reducible refine W.region ?_ | refine z_p (kk := ?_) | refine z_d (kk := ?_)))
      have hzl := zsP_len (n := c.length) c.length 0
      have hmul : c.length * c.length ≤ 7 * 7 := Nat.mul_le_mul hn7 hn7
      have hzg : ∀ r, r < c.length * c.length → (zsP c.length c.length 0).getD r 0 = prC (r / c.length) (r % c.length) := fun r hr => zsP_get (by omega) _ _ _ (Nat.zero_le _) (by omega)
      have B49 := q1
      have hGs : Gst (fun W => Blk W b1 #[.slice Ac c.length cc] 22 ∧ Blk W b4 #[v] 100 ∧ W.heap[D]? = some (.deferred (some []))) v := fun W W' h k => ⟨h.1.kp k (fun e => by have := q3 _ e; omega), h.2.1.kp k (fun e => by have := q3 _ e; omega), at_kp h.2.2 k (fun e => by have := q3 _ e; omega)⟩
      have hsort := sortStable_c (G := fun W => Blk W b1 #[.slice Ac c.length cc] 22 ∧ Blk W b4 #[v] 100 ∧ W.heap[D]? = some (.deferred (some []))) (fc := 77) (first := []) (cap := [.pointer (some ⟨b1, 0, none⟩)]) (cv := fun y x => cmI (ceA c y) (ceA c x)) (K := kG c) ⟨q2, B19, q1, hdf⟩ hGs (by omega) rfl (by exact rfl) (fun p q hpq hq => by
        have hq' : q < c.length * c.length := by omega
        rw [hzg p (by omega), hzg q hq']
        have hm := prC_mono (n := c.length) (by omega) hn7 hpq hq'
        refine ⟨fun w' hw' hg => Greedy1_c hg.1 (hM.below hw') hC (prC_prI (by omega) hn7 hq') (prC_prI (by omega) hn7 (by omega)), ?_, ?_⟩
        · rw [cmI_neg]; unfold kG; omega
        · unfold kG; omega)
      refine Ops.call rfl rfl rfl rfl rfl hsort (fun rr w10 hR => ?_)
      obtain ⟨os, hOH, hSg, hK⟩ := hR
      have hol := hSg.len
      obtain ⟨B1x, B4x, hd10⟩ := hOH.g
      have hJ10 := hOH.oi
      have hb10 := hJ10.bel
      have hb1010 : Below w10.heap.size w10 w10 := Below.refl _ _
      (repeat (first | with_reducible refine W.seq ?_ | with_reducible refine Ops.nil ?_ | with_reducible refine W.region ?_))
      refine Ops.bs1 rfl rfl rfl rfl rfl rfl rfl rfl rfl (fun w11 rb hMb => ?_)
      have hb1011 := Mk.bel hMb
      have B1y := B1x.kp (Kp.of_below (S := fun _ => False) hb1011) (fun e => e)
      have hb1111 : Below w11.heap.size w11 w11 := Below.refl _ _
      (repeat (first | refine z_l (kk := ?_) | refine z_d (kk := ?_)))
      refine Ops.call rfl rfl rfl rfl rfl (repeat_c (lit1 hMb) (by omega) (by omega)) (fun gv w12 hG => ?_)
      have hb1112 := hG.bel
      have hJ12 := (hJ10.below hb1011).below hb1112
      have hgv := hG.ge
      have hgl : (List.replicate c.length (-1 : Int)).length = c.length := by simp
      have B412 : Blk w12 b4 #[v] 100 := B4x.kp (Kp.of_below (S := fun _ => False) (Below.via hb1011 hb1112)) (fun e => e)
      have hb1212 : Below w12.heap.size w12 w12 := Below.refl _ _
      have hG0 := hG.up (Below.via hb10 hb1011)
      have hd12 : w12.heap[D]? = some (.deferred (some [])) := at_kp (at_kp hd10 (Kp.of_below (S := fun _ => False) hb1011) (fun e => e)) (Kp.of_below (S := fun _ => False) hb1112) (fun e => e)
      have hDlt : D < w11.heap.size := by have := (Array.getElem?_eq_some_iff.1 hd10).1; have := hb1011.size; omega
      have hDw : w.heap.size ≤ D := by have := hb0E.size; omega
      have hvw : ∀ k, v.ownBlock = some k → k < w11.heap.size := fun k hk => ((hJ10.below hb1011).own.lt k hk).2
      obtain ⟨Av, mv, rfl⟩ := hJ10.sh
      have hpr : ∀ r, r < os.length → prI c (os.getD r 0) := fun r hr => by
        obtain ⟨q, _, hq, e⟩ := hSg.mem r (Nat.zero_le _) (by omega)
        rw [e, hzg q (by omega)]
        exact prC_prI (by omega) hn7 (by omega)
      obtain ⟨Ag, cg, rfl⟩ := hG.sh
      clear hG
      rw [hgl] at hgv hG0 ⊢
      (repeat (first | with_reducible refine W.seq ?_ | with_reducible refine Ops.nil ?_ | with_reducible refine W.region ?_ | refine z_p (kk := ?_) | with_reducible refine W.block ?_ | refine z_l (kk := ?_) | refine z_d (kk := ?_)))
      refine W.loop (fun m ρ w13 => ∃ (i : Nat), m = os.length - i ∧ i ≤ os.length ∧ ρ = [(7, .slice Ag c.length cg), (30, .slice Av os.length mv), (31, .int .i64 os.length), (32, .int .i64 i)] ∧ OI 3 (Value.int .i64) w w13 (.slice Ag c.length cg) (grF (os.take i) (List.replicate c.length (-1))) ∧ OJ 37 fA fB w w13 (.slice Av os.length mv) os ∧ w13.heap[D]? = some (.deferred (some [])))
        ⟨_, _, ⟨0, rfl, Nat.zero_le _, rfl, hG0, hJ10.below hb1011 |>.below hb1112, hd12⟩, (by repeat (first | exact trivial | refine And.intro rfl ?_))⟩ ?_
      clear hG0 hJ12 hJ10
      rintro m ρ w13 ⟨i, rfl, hi, rfl, hG, hJ, hd13⟩
      have hb13' := hG.bel
      (repeat (first | with_reducible refine W.seq ?_ | with_reducible refine Ops.nil ?_ | with_reducible refine W.region ?_ | refine z_p (kk := ?_)))
      (first | refine W.condD rfl (fun hc => ?_) (fun hc => ?_) | refine W.condE rfl (fun hc => ?_) (fun hc => ?_) | refine W.condN rfl (fun hc => ?_) (fun hc => ?_) | refine W.cond rfl (fun hc => ?_) (fun hc => ?_))
      · have hil : i < os.length := by omega
        obtain ⟨g, cp, ev', hcell⟩ := hJ.at_ (by omega)
        cases ev'
        obtain ⟨c1, c2⟩ := hcell i hil
        have hpz := hpr i hil
        have htk : os.take (i + 1) = os.take i ++ [os.getD i 0] := by
          rw [List.take_succ_eq_append_getElem hil]
          simp [List.getD_eq_getElem?_getD, hil]
        have hgr : grF (os.take (i + 1)) (List.replicate c.length (-1)) = grS (grF (os.take i) (List.replicate c.length (-1))) (os.getD i 0) := by rw [htk, grF_snoc]
        have hgfl : (grF (os.take i) (List.replicate c.length (-1))).length = c.length := by rw [grF_len]; simp
        generalize os.getD i 0 = z at *
        generalize grF (os.take i) (List.replicate c.length (-1)) = gl at *
        obtain ⟨hp1, hp2⟩ := hpz
        (repeat (first | with_reducible refine W.seq ?_ | with_reducible refine W.region ?_ | with_reducible refine W.skip ?_ | with_reducible refine W.block ?_))
        refine Ops.idx rfl rfl rfl rfl rfl rfl rfl (by omega) (by omega) ?_
        refine Ops.ld2 rfl rfl rfl rfl rfl rfl c1 c2 ?_
        refine Ops.alloc rfl rfl rfl rfl (fun w14 b9 hM9 => ?_)
        refine Ops.stN (vs := [fA z, fB z]) (cs := [.int .i64 0, .int .i64 0]) rfl rfl rfl rfl rfl rfl (by intro v hv; simp at hv; rcases hv with rfl | rfl <;> rfl) rfl hM9.at_ (fun w15 hu9 => ?_)
        have B9 : Blk w15 b9 #[.int .i64 (z / 7), .int .i64 (z % 7)] 37 := hu9.blk
        have e9 := hM9.r_eq
        have hb1315 : Below w13.heap.size w13 w15 := Below.put (Mk.bel hM9) hu9.kp (fun k e => by omega)
        have hG15 := hG.below hb1315
        have hJ15 := hJ.below hb1315
        have hsl15 : SlI w15 (.slice Ag c.length cg) gl := hG15.sl
        have hb1515 : Below w15.heap.size w15 w15 := Below.refl _ _
        have hd15 : w15.heap[D]? = some (.deferred (some [])) := at_kp hd13 (Kp.of_below (S := fun _ => False) hb1315) (fun e => e)
        (repeat (first | with_reducible refine W.seq ?_ | with_reducible refine Ops.nil ?_ | with_reducible refine W.region ?_ | refine z_p (kk := ?_)))
        refine Ops.evG rfl rfl rfl (EV.idxP rfl rfl rfl rfl rfl (by decide) (by decide)) ?_
        (repeat (first | refine z_p (kk := ?_) | refine z_d (kk := ?_) | refine z_K (kk := fun _ => ?_)))
        by_cases hx : gl.getD (z / 7).toNat 0 < 0
        · (repeat (first | refine z_p (kk := ?_) | refine z_y (kk := ?_) | refine z_h (kk := ?_)))
          refine Ops.evG rfl rfl rfl (EV.idxP rfl rfl rfl rfl rfl (by decide) (by decide)) ?_
          (repeat (first | refine z_y (kk := ?_) | refine z_d (kk := ?_)))
          refine Ops.callS rfl rfl rfl rfl rfl (contains_c hsl15) ?_
          by_cases hz : z % 7 ∈ gl
          · rw [decide_eq_true hz]
            have hgs : grS gl z = gl := by unfold grS; rw [if_neg (fun h => h.2 hz)]
            rw [hgs] at hgr
            (repeat (first | with_reducible refine Ops.nil ?_ | refine z_p (kk := ?_) | refine z_y (kk := ?_)))
            refine W.condF rfl (by first | rfl | assumption | (simp only [bnf] <;> omega) | (simp only [*, bnf]; done) | fail) ?_
            (repeat (first | with_reducible refine Ops.nil ?_ | with_reducible refine W.region ?_ | refine z_p (kk := ?_) | refine z_a (kk := ?_) | with_reducible refine W.skip ?_ | with_reducible refine W.endb ?_))
            exact W.endl ⟨_, _, ⟨⟨i + 1, rfl, by omega, rfl, by rw [hgr]; exact hG15, hJ15, hd15⟩, by omega⟩, (by repeat (first | exact trivial | refine And.intro rfl ?_))⟩
          · rw [decide_eq_false hz]
            have hgs : grS gl z = gl.set (z / 7).toNat (z % 7) := by unfold grS; rw [if_pos ⟨hx, hz⟩]
            rw [hgs] at hgr
            (repeat (first | with_reducible refine Ops.nil ?_ | refine z_p (kk := ?_) | refine z_y (kk := ?_)))
            refine W.condT rfl (by first | rfl | assumption | (simp only [bnf] <;> omega) | (simp only [*, bnf]; done) | fail) ?_
            (repeat (first | with_reducible refine W.region ?_ | refine z_p (kk := ?_)))
            refine Ops.evG rfl rfl rfl (EV.idxP rfl rfl rfl rfl rfl (by decide) (by decide)) ?_
            (repeat (first | refine z_d (kk := ?_)))
            refine Ops.evG rfl rfl rfl (EV.idxP rfl rfl rfl rfl rfl (by decide) (by decide)) ?_
            (repeat (first | refine z_d (kk := ?_)))
            refine Ops.wrOi (enc := Value.int .i64) (u := z % 7) rfl rfl rfl rfl rfl rfl rfl rfl rfl rfl rfl rfl (by simp) rfl hG15 (by omega) (by omega) (fun w16 p hO6 k6 hs6 => ?_)
            have hJ16 := hJ15.kp k6 (fun k e => ⟨hG15.ge k e, fun e2 => by have := hvw k e2; have := hgv k e; omega⟩)
            have hd16 := at_kp hd15 k6 (fun e => by have := hgv _ e; omega)
            (repeat (first | with_reducible refine Ops.nil ?_ | with_reducible refine W.region ?_ | refine z_p (kk := ?_) | refine z_a (kk := ?_) | with_reducible refine W.endb ?_))
            exact W.endl ⟨_, _, ⟨⟨i + 1, rfl, by omega, rfl, by rw [hgr]; exact hO6, hJ16, hd16⟩, by omega⟩, (by repeat (first | exact trivial | refine And.intro rfl ?_))⟩
        · have hgs : grS gl z = gl := by unfold grS; rw [if_neg (fun h => hx h.1)]
          rw [hgs] at hgr
          (repeat (first | with_reducible refine Ops.nil ?_ | refine z_p (kk := ?_) | refine z_n (kk := ?_) | refine z_g (kk := ?_)))
          refine W.condF rfl (by first | rfl | assumption | (simp only [bnf] <;> omega) | (simp only [*, bnf]; done) | fail) ?_
          (repeat (first | with_reducible refine Ops.nil ?_ | with_reducible refine W.region ?_ | refine z_p (kk := ?_) | refine z_a (kk := ?_) | with_reducible refine W.skip ?_ | with_reducible refine W.endb ?_))
          exact W.endl ⟨_, _, ⟨⟨i + 1, rfl, by omega, rfl, by rw [hgr]; exact hG15, hJ15, hd15⟩, by omega⟩, (by repeat (first | exact trivial | refine And.intro rfl ?_))⟩
      · have hil : i = os.length := by omega
        subst hil
        rw [List.take_length] at hG
        (repeat (first | with_reducible refine W.seq ?_ | with_reducible refine Ops.nil ?_ | with_reducible refine W.region ?_ | refine z_p (kk := ?_) | refine W.exit rfl ?_))
        have hkD := kp_putObj (w := w13) (r := D) (.deferred none)
        refine W.ret ⟨rfl, hd13, _, fun a hr => run_results hr rfl, Below.put hG.bel hkD (fun k e => by omega), fun h => by simp at h, fun _ => ⟨_, os, rfl, hSg.perm, by rw [hol]; exact hK, hG.kp hkD (fun k e => ⟨by omega, fun e2 => by have := hgv k e2; omega⟩)⟩⟩
end Go.Proofs.Ytehjmakiljhjdaa
/- Plain: what is taken greedily is an assignment. -/
namespace Go.Proofs.Ytehjmakiljhjdaa
open Go Go.RowKit Go.Proofs.Ytehjmakiljhjdaa.VW
/-- What stands between two pairs. -/
structure GrI (n : Nat) (g : List Int) : Prop where
  len : g.length = n
  rng : ∀ i, i < n → g.getD i 0 = -1 ∨ (0 ≤ g.getD i 0 ∧ g.getD i 0 < n)
  ne : ∀ i k, i < n → k < n → i ≠ k → 0 ≤ g.getD i 0 → g.getD i 0 ≠ g.getD k 0
theorem GrI.start (n : Nat) : GrI n (List.replicate n (-1)) := by
  have h : ∀ i, i < n → (List.replicate n (-1 : Int)).getD i 0 = -1 := fun i hi => by simp [List.getD_eq_getElem?_getD, hi]
  exact ⟨by simp, fun i hi => .inl (h i hi), fun i k hi hk hne h0 => by rw [h i hi] at h0; omega⟩
theorem mem_getD {g : List Int} {y : Int} : y ∈ g ↔ ∃ i, i < g.length ∧ g.getD i 0 = y := by
  constructor
  · intro h
    obtain ⟨i, hi, rfl⟩ := List.getElem_of_mem h
    exact ⟨i, hi, by simp [List.getD_eq_getElem?_getD, hi]⟩
  · rintro ⟨i, hi, rfl⟩
    simp [List.getD_eq_getElem?_getD, hi]
theorem getD_setE {g : List Int} {i k : Nat} {y : Int} (hi : i < g.length) : (g.set i y).getD k 0 = if k = i then y else g.getD k 0 := by
  simp only [List.getD_eq_getElem?_getD]
  by_cases e : k = i
  · subst e; simp [hi]
  · rw [List.getElem?_set_ne (by omega), if_neg e]
theorem GrI.step {n : Nat} {g : List Int} {z : Int} (h : GrI n g) (h1 : 0 ≤ z / 7 ∧ z / 7 < n) (h2 : 0 ≤ z % 7 ∧ z % 7 < n) : GrI n (grS g z) ∧ (∀ i, i < n → 0 ≤ g.getD i 0 → (grS g z).getD i 0 = g.getD i 0) := by
  have hl := h.len
  unfold grS
  split
  · rename_i hc
    have hx : (z / 7).toNat < g.length := by omega
    refine ⟨⟨by simp [hl], fun i hi => ?_, fun i k hi hk hne h0 => ?_⟩, fun i hi h0 => ?_⟩
    · rw [getD_setE hx]
      split
      · right; omega
      · exact h.rng i hi
    · rw [getD_setE hx] at h0 ⊢
      rw [getD_setE hx]
      have hnm : ∀ k, k < n → g.getD k 0 ≠ z % 7 := fun k hk e => hc.2 (mem_getD.2 ⟨k, by omega, e⟩)
      by_cases e1 : i = (z / 7).toNat
      · rw [if_pos e1, if_neg (by omega)]
        exact fun e => hnm k hk e.symm
      · rw [if_neg e1] at h0 ⊢
        by_cases e2 : k = (z / 7).toNat
        · rw [if_pos e2]; exact hnm i hi
        · rw [if_neg e2]; exact h.ne i k hi hk hne h0
    · rw [getD_setE hx]
      split
      · rename_i e; subst e; omega
      · rfl
  · exact ⟨h, fun _ _ _ => rfl⟩
theorem GrI.fold {n : Nat} : ∀ (os : List Int) (g : List Int), GrI n g → (∀ z, z ∈ os → (0 ≤ z / 7 ∧ z / 7 < n) ∧ 0 ≤ z % 7 ∧ z % 7 < n) → GrI n (grF os g) ∧ ∀ i, i < n → 0 ≤ g.getD i 0 → (grF os g).getD i 0 = g.getD i 0
  | [], g, h, _ => ⟨h, fun _ _ _ => rfl⟩
  | z :: r, g, h, hz => by
    obtain ⟨h1, h2⟩ := hz z (List.mem_cons_self ..)
    obtain ⟨s1, s2⟩ := h.step h1 h2
    obtain ⟨f1, f2⟩ := GrI.fold r (grS g z) s1 (fun x hx => hz x (List.mem_cons_of_mem _ hx))
    refine ⟨f1, fun i hi h0 => ?_⟩
    have := s2 i hi h0
    exact (f2 i hi (by omega)).trans this
/-- Behind a pair: its button has a hole, or its hole is taken. -/
theorem gr_seen {n : Nat} {z : Int} (h1 : 0 ≤ z / 7 ∧ z / 7 < n) (h2 : 0 ≤ z % 7 ∧ z % 7 < n) : ∀ (os : List Int) (g : List Int), GrI n g → (∀ z, z ∈ os → (0 ≤ z / 7 ∧ z / 7 < n) ∧ 0 ≤ z % 7 ∧ z % 7 < n) → z ∈ os → 0 ≤ (grF os g).getD (z / 7).toNat 0 ∨ z % 7 ∈ grF os g
  | [], g, _, _, hm => by simp at hm
  | a :: r, g, h, hz, hm => by
    obtain ⟨a1, a2⟩ := hz a (List.mem_cons_self ..)
    have hr := fun x hx => hz x (List.mem_cons_of_mem _ hx)
    obtain ⟨s1, s2⟩ := h.step a1 a2
    rcases List.mem_cons.1 hm with e | e
    · subst e
      obtain ⟨f1, f2⟩ := GrI.fold r (grS g z) s1 hr
      have hkeep : (0 ≤ (grS g z).getD (z / 7).toNat 0 ∨ z % 7 ∈ grS g z) := by
        by_cases hc : g.getD (z / 7).toNat 0 < 0 ∧ ¬ (z % 7 ∈ g)
        · left
          unfold grS
          rw [if_pos hc, getD_setE (by have := h.len; omega), if_pos rfl]
          exact h2.1
        · unfold grS
          rw [if_neg hc]
          by_cases hx : g.getD (z / 7).toNat 0 < 0
          · right
            exact Classical.byContradiction fun hn => hc ⟨hx, hn⟩
          · left; omega
      show 0 ≤ (grF r (grS g z)).getD _ 0 ∨ _ ∈ grF r (grS g z)
      rcases hkeep with k | k
      · left
        rw [f2 _ (by omega) k]; exact k
      · right
        obtain ⟨i, hi, e⟩ := mem_getD.1 k
        have hi' : i < n := by rw [s1.len] at hi; exact hi
        exact mem_getD.2 ⟨i, by rw [f1.len]; exact hi', by rw [f2 i hi' (by omega)]; exact e⟩
    · exact gr_seen h1 h2 r (grS g a) s1 hr e
end Go.Proofs.Ytehjmakiljhjdaa
/- Plain: greedy is an assignment, with a pair of the least cost. -/
namespace Go.Proofs.Ytehjmakiljhjdaa
open Go Go.RowKit Go.Proofs.Ytehjmakiljhjdaa.VW
open Go.Proofs.Ytehjmakiljhjdaa.HP (SegP SortK)
theorem zsP_mem {n x y : Nat} (hx : x < n) (hy : y < n) : prC x y ∈ zsP n n 0 := by
  have hlt : n * x + y < n * n := by
    have : n * (x + 1) ≤ n * n := Nat.mul_le_mul_left n (by omega)
    rw [Nat.mul_add] at this; omega
  have h := zsP_get (n := n) (by omega) n 0 (n * x + y) (Nat.zero_le _) (by omega)
  have e1 : (n * x + y) / n = x := by
    rw [show n * x + y = y + n * x by omega, Nat.add_mul_div_left _ _ (by omega), Nat.div_eq_of_lt hy]; omega
  have e2 : (n * x + y) % n = y := by
    rw [show n * x + y = y + n * x by omega, Nat.add_mul_mod_self_left, Nat.mod_eq_of_lt hy]
  rw [e1, e2] at h
  exact mem_getD.2 ⟨n * x + y, by rw [zsP_len]; omega, h⟩
theorem zsP_rng {n : Nat} (hn : 0 < n) (h7 : n ≤ 7) {z : Int} (h : z ∈ zsP n n 0) : (0 ≤ z / 7 ∧ z / 7 < n) ∧ 0 ≤ z % 7 ∧ z % 7 < n := by
  obtain ⟨r, hr, e⟩ := mem_getD.1 h
  rw [zsP_len] at hr
  rw [zsP_get hn n 0 r (Nat.zero_le _) hr] at e
  have b1 := Nat.mod_lt r hn
  have c2 : r / n < n := Nat.div_lt_of_lt_mul (by omega)
  obtain ⟨t1, t2⟩ := prC_a (i := r / n) (j := r % n) (by omega)
  rw [e] at t1 t2
  rw [t1, t2]
  exact ⟨⟨Int.natCast_nonneg _, by exact_mod_cast c2⟩, Int.natCast_nonneg _, by exact_mod_cast b1⟩
theorem gr_asg {n : Nat} {os : List Int} (hn : 0 < n) (h7 : n ≤ 7) (hp : os.Perm (zsP n n 0)) : Asg (grF os (List.replicate n (-1))) n := by
  have hz : ∀ z, z ∈ os → (0 ≤ z / 7 ∧ z / 7 < n) ∧ 0 ≤ z % 7 ∧ z % 7 < n := fun z h => zsP_rng hn h7 (hp.mem_iff.1 h)
  obtain ⟨f1, -⟩ := GrI.fold os _ (GrI.start n) hz
  have hseen : ∀ x y : Nat, x < n → y < n → 0 ≤ (grF os (List.replicate n (-1))).getD x 0 ∨ (y : Int) ∈ grF os (List.replicate n (-1)) := fun x y hx hy => by
    obtain ⟨t1, t2⟩ := prC_a (i := x) (j := y) (by omega)
    have hm := hp.mem_iff.2 (zsP_mem hx hy)
    have := gr_seen (hz _ hm).1 (hz _ hm).2 os _ (GrI.start n) hz hm
    rw [t1, t2] at this
    simpa using this
  generalize grF os (List.replicate n (-1)) = g at *
  have hl := f1.len
  have hpos : ∀ x, x < n → 0 ≤ g.getD x 0 := fun x hx => Classical.byContradiction fun hneg => by
    have hall : ∀ y : Nat, ∃ i : Nat, y < n → i < n ∧ g.getD i 0 = (y : Int) := fun y => by
      by_cases hy : y < n
      · rcases hseen x y hx hy with h | h
        · exact absurd h hneg
        · obtain ⟨i, hi, e⟩ := mem_getD.1 h
          exact ⟨i, fun _ => ⟨by omega, e⟩⟩
      · exact ⟨0, fun h => absurd h hy⟩
    obtain ⟨f, hf⟩ := Classical.axiomOfChoice hall
    have := cover (n := n) (l := (List.range n).map f) (map_inj_nodup (fun i k hi hk e => by
      have h1 := (hf i hi).2
      have h2 := (hf k hk).2
      rw [e] at h1
      omega)) (fun y hy => by
      obtain ⟨i, hi, rfl⟩ := List.mem_map.1 hy
      exact (hf i (List.mem_range.1 hi)).1) (by simp) hx
    obtain ⟨y, hy, e⟩ := List.mem_map.1 this
    have := (hf y (List.mem_range.1 hy)).2
    rw [e] at this
    omega
  refine ⟨hl, fun i hi => ⟨?_, fun k hk => ?_⟩⟩
  · rcases f1.rng i (by omega) with e | e
    · have := hpos i (by omega); omega
    · exact e
  · exact f1.ne k i (by omega) (by omega) (by omega) (hpos k (by omega))
end Go.Proofs.Ytehjmakiljhjdaa
/- Plain: greedy holds a pair of the least cost. -/
namespace Go.Proofs.Ytehjmakiljhjdaa
open Go Go.RowKit Go.Proofs.Ytehjmakiljhjdaa.VW
open Go.Proofs.Ytehjmakiljhjdaa.HP (SegP SortK)
theorem zsP_bd {n : Nat} (hn : 0 < n) (h7 : n ≤ 7) {z : Int} (h : z ∈ zsP n n 0) : 0 ≤ z ∧ z < 49 := by
  have := zsP_rng hn h7 h
  omega
theorem gr_least {c : List (List Int)} {os : List Int} (hn : 0 < c.length) (h7 : c.length ≤ 7) (hp : os.Perm (zsP c.length c.length 0)) (hs : SortK (kG c) os 0 os.length) :
    ∃ x, x < c.length ∧ ∀ i j : Nat, i < c.length → j < c.length → eC c x (funA (grF os (List.replicate c.length (-1))) x) ≤ eC c i j := by
  have hpl : os.length = c.length * c.length := by rw [hp.length_eq, zsP_len]; omega
  have hpos : 0 < c.length * c.length := Nat.mul_pos hn hn
  have hz : ∀ z, z ∈ os → (0 ≤ z / 7 ∧ z / 7 < c.length) ∧ 0 ≤ z % 7 ∧ z % 7 < c.length := fun z h => zsP_rng hn h7 (hp.mem_iff.1 h)
  have hb : ∀ z, z ∈ os → 0 ≤ z ∧ z < 49 := fun z h => zsP_bd hn h7 (hp.mem_iff.1 h)
  cases os with
  | nil => simp at hpl; omega
  | cons z0 r =>
    obtain ⟨a1, a2⟩ := hz z0 (List.mem_cons_self ..)
    have hg0 : grS (List.replicate c.length (-1)) z0 = (List.replicate c.length (-1)).set (z0 / 7).toNat (z0 % 7) := by
      unfold grS
      rw [if_pos]
      refine ⟨?_, fun h => ?_⟩
      · simp [List.getD_eq_getElem?_getD, show (z0 / 7).toNat < c.length by omega]
      · have := List.eq_of_mem_replicate h; omega
    have s1 := (GrI.start c.length).step a1 a2
    have f2 := (GrI.fold r _ s1.1 (fun x hx => hz x (List.mem_cons_of_mem _ hx))).2 (z0 / 7).toNat (by omega)
    rw [hg0, getD_setE (by simp; omega), if_pos rfl] at f2
    have f3 : (grF (z0 :: r) (List.replicate c.length (-1))).getD (z0 / 7).toNat 0 = z0 % 7 := by
      show (grF r (grS (List.replicate c.length (-1)) z0)).getD _ 0 = _
      rw [hg0]; exact f2 a2.1
    refine ⟨(z0 / 7).toNat, by omega, fun i j hi hj => ?_⟩
    unfold funA
    rw [f3]
    have e0 : eC c (z0 / 7).toNat (z0 % 7).toNat = ceA c z0 := rfl
    rw [e0]
    have hm := hp.mem_iff.2 (zsP_mem hi hj)
    obtain ⟨t1, t2⟩ := prC_a (i := i) (j := j) (by omega)
    have e1 : eC c i j = ceA c (prC i j) := by
      unfold ceA row eC
      rw [t1, t2]
      rfl
    rw [e1]
    obtain ⟨q, hq, e⟩ := mem_getD.1 hm
    have hb0 := hb z0 (List.mem_cons_self ..)
    have hb1 := hb _ hm
    rcases Nat.eq_zero_or_pos q with h0 | h0
    · subst h0
      have : z0 = prC i j := by simpa using e
      rw [this]; exact Int.le_refl _
    · have := hs 0 q (Nat.le_refl _) h0 hq
      rw [e] at this
      have e3 : (z0 :: r).getD 0 0 = z0 := rfl
      rw [e3] at this
      unfold kG at this
      omega
end Go.Proofs.Ytehjmakiljhjdaa
/- Plain: costs that are what button and hole have together. -/
namespace Go.Proofs.Ytehjmakiljhjdaa
open Go Go.RowKit Go.Proofs.Ytehjmakiljhjdaa.VW
theorem lexB_diff : ∀ a b : List Int, a.length = b.length → lexB a b = true → ∃ i, i < a.length ∧ a.getD i 0 < b.getD i 0 ∧ ∀ k, k < i → a.getD k 0 = b.getD k 0
  | [], [], _, h => by simp [lexB] at h
  | [], y :: b, hl, _ => by simp at hl
  | x :: a, [], hl, _ => by simp at hl
  | x :: a, y :: b, hl, h => by
    by_cases e : x < y
    · exact ⟨0, by simp, by simpa using e, fun k hk => by omega⟩
    · simp only [lexB] at h
      have h2 : x = y ∧ lexB a b = true := by simpa [e] using h
      obtain ⟨i, i1, i2, i3⟩ := lexB_diff a b (by simpa using hl) h2.2
      refine ⟨i + 1, by simpa using i1, by simpa using i2, fun k hk => ?_⟩
      cases k with
      | zero => simpa using h2.1
      | succ k => simpa using i3 k (by omega)
theorem ordL_nil : ∀ n, (ordL [] n).length = n ∧ ∀ k, k < n → (ordL [] n).getD k 0 = (k : Int)
  | 0 => ⟨rfl, fun k h => by omega⟩
  | n + 1 => by
    obtain ⟨h1, h2⟩ := ordL_nil n
    have e : ordL [] (n + 1) = ordL [] n ++ [(n : Int)] := by
      simp only [ordL, List.length_nil, Nat.not_lt_zero, if_false]
      rw [List.take_of_length_le (by omega), List.drop_of_length_le (by omega), List.append_nil]
    rw [e]
    refine ⟨by simp [h1], fun k hk => ?_⟩
    by_cases ek : k = n
    · subst ek
      simp only [List.getD_eq_getElem?_getD]
      rw [List.getElem?_append_right (by omega)]
      simp [h1]
    · rw [← h2 k (by omega)]
      simp [List.getD_eq_getElem?_getD, List.getElem?_append_left (show k < (ordL [] n).length by omega)]
theorem id_least {a : List Int} {n : Nat} (h : Asg a n) : ¬ lexB a (ordL [] n) = true := fun hl => by
  obtain ⟨o1, o2⟩ := ordL_nil n
  obtain ⟨i, i1, i2, i3⟩ := lexB_diff a _ (by rw [h.1, o1]) hl
  have hin : i < n := by rw [h.1] at i1; exact i1
  rw [o2 i hin] at i2
  obtain ⟨⟨p1, p2⟩, p3⟩ := h.2 i i1
  have hk : (a.getD i 0).toNat < i := by omega
  have e1 := i3 _ hk
  rw [o2 _ (by omega)] at e1
  exact p3 _ hk (by rw [e1]; omega)
def FlatC (c : List (List Int)) (u v : Nat → Int) : Prop := ∀ i j, i < c.length → j < c.length → eC c i j = u i - v j
theorem FlatC.tot {c : List (List Int)} {u v : Nat → Int} (h : FlatC c u v) {a : List Int} (hA : Asg a c.length) : totP c a c.length = sN u c.length + sN (fun j => - v j) c.length := by
  have e2 := sN_asg (g := fun j => - v j) hA
  rw [totP_sN, sN_congr (h := fun i => u i + - v (funA a i)) _ (fun i hi => by rw [h i _ hi (hA.funA hi).2]; omega), sN_add, e2]
theorem FlatC.first {c : List (List Int)} {u v : Nat → Int} (h : FlatC c u v) : firstS c c.length 0 = ordL [] c.length := by
  have hA := ordL_asg [] c.length
  have hf := firstS_Asg (c := c)
  have t1 := h.tot hA
  have t2 := h.tot hf
  have t3 := first_tot (c := c)
  rcases first_lex hA (by omega) with e | e
  · exact e.symm
  · exact absurd e (id_least hf)
end Go.Proofs.Ytehjmakiljhjdaa
namespace Go.Proofs.Ytehjmakiljhjdaa
open Go Go.RowKit Go.Proofs.Ytehjmakiljhjdaa.VW
attribute [local irreducible] W Ops OrdA VW.Ord OrdX
def uF (l : List Int) (x : Nat) : Int := if x < l.length then modI (l.getD x 0) 500 else 0
def flT (l : List Int) (n x y q : Nat) : List Int := fl n fun j => if q < x ∨ (q = x ∧ j < y) then uF l q - uF l (n + j) else 0
def flC (l : List Int) (n : Nat) : List (List Int) := (List.range n).map fun q => flT l n n 0 q
theorem uF_bd (l : List Int) (x : Nat) : 0 ≤ uF l x ∧ uF l x < 500 := by
  unfold uF
  split
  · exact modI_bd _ (by omega)
  · omega
theorem flC_row {l : List Int} {n q : Nat} (h : q < n) : (flC l n).getD q [] = flT l n n 0 q := by simp [flC, List.getD_eq_getElem?_getD, h]
theorem flC_ent {l : List Int} {n q j : Nat} (h : q < n) (hj : j < n) : eC (flC l n) q j = uF l q - uF l (n + j) := by
  unfold eC
  rw [flC_row h]
  unfold flT
  rw [fl_get hj, if_pos (.inl h)]
theorem flC_len (l : List Int) (n : Nat) : (flC l n).length = n := by simp [flC]
theorem flC_cst (l : List Int) {n : Nat} (h1 : 1 ≤ n) (h7 : n ≤ 7) : Cst (flC l n) := by
  refine ⟨by rw [flC_len]; exact h1, by rw [flC_len]; exact h7, fun i hi => ?_, fun i j hi hj => ?_⟩
  · rw [flC_len] at hi ⊢
    rw [flC_row hi]; exact fl_len _ _
  · rw [flC_len] at hi hj
    have := flC_ent (l := l) hi hj
    have b1 := uF_bd l i
    have b2 := uF_bd l (n + j)
    unfold eC at this
    rw [this]
    omega
theorem flC_flat (l : List Int) (n : Nat) : FlatC (flC l n) (uF l) (fun j => uF l (n + j)) := fun i j hi hj => by
  rw [flC_len] at hi hj
  exact flC_ent hi hj
def flU (l : List Int) (n x y q : Nat) : List Int := fl n fun j => if q = x ∧ j = y then uF l x else if q < x ∨ (q = x ∧ j < y) then uF l q - uF l (n + j) else 0
theorem flU_a {l : List Int} {n x y q : Nat} {t : Int} (ht : t = uF l x) : (if q = x then (flT l n x y x).set y t else flT l n x y q) = flU l n x y q := by
  subst ht
  by_cases e : q = x
  · subst e
    rw [if_pos rfl]
    unfold flT flU
    rw [fl_set]
    exact fl_congr fun j hj => by by_cases e2 : j = y <;> simp [e2]
  · rw [if_neg e]
    unfold flT flU
    exact fl_congr fun j hj => by simp [e]
theorem flU_b {l : List Int} {n x y q : Nat} (h : uF l x = 0) : flT l n x y q = flU l n x y q := by
  unfold flT flU
  refine fl_congr fun j hj => ?_
  by_cases e : q = x ∧ j = y
  · rw [if_pos e, if_neg (by omega), h]
  · rw [if_neg e]
theorem flV_a {l : List Int} {n x y q : Nat} {t : Int} (ht : t = uF l x - uF l (n + y)) : (if q = x then (flU l n x y x).set y t else flU l n x y q) = flT l n x (y + 1) q := by
  subst ht
  by_cases e : q = x
  · subst e
    rw [if_pos rfl]
    unfold flT flU
    rw [fl_set]
    refine fl_congr fun j hj => ?_
    by_cases e2 : j = y
    · subst e2; simp
    · have a1 : (j < y) ↔ (j < y + 1) := by omega
      simp [e2, a1]
  · rw [if_neg e]
    unfold flT flU
    refine fl_congr fun j hj => ?_
    have a1 : (q < x ∨ q = x ∧ j < y) = (q < x ∨ q = x ∧ j < y + 1) := by apply propext; omega
    rw [if_neg (fun h => e h.1)]
    simp only [a1]
theorem flV_b {l : List Int} {n x y q : Nat} (h : uF l (n + y) = 0) : flU l n x y q = flT l n x (y + 1) q := by
  unfold flT flU
  refine fl_congr fun j hj => ?_
  by_cases e : q = x ∧ j = y
  · rw [if_pos e, if_pos (by omega), e.1, e.2, h]; omega
  · rw [if_neg e]
    have a1 : (q < x ∨ q = x ∧ j < y) = (q < x ∨ q = x ∧ j < y + 1) := by apply propext; omega
    simp only [a1]
set_option maxHeartbeats 8000000 in
set_option maxRecDepth 20000 in
theorem greedyLaw_c {w : World} {mv lv : Value} {n : Int} {l : List (List Int)} {by_ : List Int} (hm : ArgR w mv l) (hl : Arg w lv by_) :
    Calls Try.prog 10 #[.int .i64 n, mv, lv] w (Ret fun r w' => r = .bool true ∧ Below w.heap.size w w') := by
  obtain ⟨Al, cl, rfl⟩ := Sl.shape hl.1
  have hll := Sl.len hl.1
  refine calls_W (vs := [_, _, _]) Try.func10 rfl (by kernel_rfl) rfl ?_
  (repeat (first | with_reducible refine W.seq ?_ | with_reducible refine Ops.nil ?_ | with_reducible refine W.region ?_ | refine z_p (kk := ?_)))
  refine Ops.callS rfl rfl rfl rfl rfl (mod_c _ _ _ (by omega) (by omega)) ?_
  have hmb := modI_bd n (n := 6) (by omega)
  obtain ⟨n0, hn0⟩ := Int.eq_ofNat_of_zero_le hmb.1
  rw [hn0] at hmb ⊢
  (repeat (first | with_reducible refine W.seq ?_ | with_reducible refine Ops.nil ?_ | with_reducible refine W.region ?_ | refine z_p (kk := ?_) | refine z_a (kk := ?_)))
  rw [show (1 : Int) + ((n0 : Nat) : Int) = ((n0 + 1 : Nat) : Int) by omega]
  refine Ops.call rfl rfl rfl rfl rfl (tame_c hm.1 (n := n0 + 1) (by omega) (by omega) (by omega)) (fun tv w2 hR => ?_)
  obtain ⟨cvs, hR⟩ := hR
  have hb2 := hR.o.bel
  have hM2 := hR.rowsM
  change RowsM w2 tv (tmC l (n0 + 1) 1000) at hM2
  have hC := tmC_cst l (n := n0 + 1) (most := 1000) (by omega) (by omega) (by omega) (by omega)
  have hcl := tmC_len l (n0 + 1) 1000
  generalize tmC l (n0 + 1) 1000 = c at *
  clear hR
  have hcB : costsB c = true := costs_iff.2 hC
  have hn7 := hC.n7
  have hn1 := hC.n1
  obtain ⟨Ac, cc, rfl⟩ := hM2.sl
  (repeat (first | with_reducible refine W.seq ?_ | with_reducible refine Ops.nil ?_ | with_reducible refine W.region ?_ | refine z_p (kk := ?_)))
  refine Ops.call rfl rfl rfl rfl rfl (Greedy_c hM2) (fun r w3 hR => ?_)
  obtain ⟨hb3, -, hR⟩ := hR
  obtain ⟨gv, os, rfl, hper, hsrt, hG⟩ := hR hcB
  have hgA := gr_asg (by omega) hn7 hper
  obtain ⟨xL, hxL, hle⟩ := gr_least (by omega) hn7 hper hsrt
  generalize grF os (List.replicate c.length (-1)) = g at *
  have hg3 := hG.sl (z := (0 : Int))
  clear hG hper hsrt
  have hM3 := hM2.below hb3
  (repeat (first | with_reducible refine W.seq ?_ | with_reducible refine Ops.nil ?_ | with_reducible refine W.region ?_ | refine z_p (kk := ?_)))
  refine Ops.call rfl rfl rfl rfl rfl (Best_c hM3) (fun r w4 hR => ?_)
  obtain ⟨hb4, -, hR⟩ := hR
  obtain ⟨av1, uv1, vv1, uu1, vw1, rfl, hA1, hR⟩ := hR hcB
  have hf4 := hA1.sl (z := (0 : Int))
  clear hA1 hR
  have hM4 := hM3.below hb4
  have hg4 := Sl.below hg3 hb4
  have hfA := firstS_Asg (c := c)
  have hb04 := Below.via hb2 (Below.via hb3 hb4)
  (repeat (first | with_reducible refine W.seq ?_ | with_reducible refine Ops.nil ?_ | with_reducible refine W.region ?_ | refine z_p (kk := ?_) | refine z_y (kk := ?_)))
  refine Ops.call rfl rfl rfl rfl rfl (refAsg_c hg4 (n := n0 + 1) (by omega)) (fun r w5 hR => ?_)
  obtain ⟨rfl, hb5⟩ := hR
  rw [decide_eq_true (show Asg g (n0 + 1) by rw [← hcl]; exact hgA)]
  (repeat (first | refine z_p (kk := ?_) | refine z_y (kk := ?_)))
  refine Ops.call rfl rfl rfl rfl rfl (refAsg_c (Sl.below hf4 hb5) (n := n0 + 1) (by omega)) (fun r w6 hR => ?_)
  obtain ⟨rfl, hb6⟩ := hR
  rw [decide_eq_true (show Asg (firstS c c.length 0) (n0 + 1) by rw [← hcl]; exact hfA)]
  have hb46 := Below.via hb5 hb6
  have hM6 := hM4.below hb46
  (repeat (first | refine z_p (kk := ?_) | refine z_y (kk := ?_)))
  refine Ops.call rfl rfl rfl rfl rfl (refTotal_c hM6 hC (Sl.below hg4 hb46) (fun q hq => (hgA.2 q hq).1) (by rw [hgA.1]; exact Nat.le_refl _)) (fun r w7 hR => ?_)
  obtain ⟨rfl, hb7⟩ := hR
  (repeat (first | refine z_p (kk := ?_) | refine z_y (kk := ?_)))
  refine Ops.call rfl rfl rfl rfl rfl (refTotal_c (hM6.below hb7) hC (Sl.below hf4 (Below.via hb46 hb7)) (fun q hq => (hfA.2 q hq).1) (by rw [hfA.1]; exact Nat.le_refl _)) (fun r w8 hR => ?_)
  obtain ⟨rfl, hb8⟩ := hR
  have hmin := min_le hgA
  have hft := first_tot (c := c)
  rw [hgA.1, hfA.1, hft]
  have hb48 := Below.via hb46 (Below.via hb7 hb8)
  have hM8 := hM4.below hb48
  have hg8 := Sl.below hg4 hb48
  have hb08 := Below.via hb04 hb48
  clear hM2 hM3 hM4 hM6 hg3 hg4 hf4
  have hrl : ∀ i : Nat, i < c.length → (row c (i : Int)).length = c.length := fun i hi => by rw [show row c (i : Int) = c.getD i [] by simp [row]]; exact hC.len i hi
  have hre : ∀ i j : Nat, (row c (i : Int)).getD j 0 = eC c i j := fun i j => by rw [show row c (i : Int) = c.getD i [] by simp [row]]; rfl
  have hr0 : (row c 0).length = c.length := hrl 0 (by omega)
  have hr00 : (row c 0).getD 0 0 = eC c 0 0 := hre 0 0
  have hb88 : Below w8.heap.size w8 w8 := Below.refl _ _
  (repeat (first | with_reducible refine Ops.nil ?_ | refine z_p (kk := ?_) | refine z_y (kk := ?_)))
  refine W.condF rfl (by first | rfl | assumption | (simp only [bnf] <;> omega) | (simp only [*, bnf]; done) | fail) ?_
  (repeat (first | with_reducible refine W.seq ?_ | with_reducible refine Ops.nil ?_ | with_reducible refine W.region ?_ | refine z_p (kk := ?_) | with_reducible refine W.skip ?_ | with_reducible refine W.block ?_ | refine z_K (kk := fun _ => ?_) | refine z_r (kk := fun _ _ _ _ => ?_)))
  obtain ⟨Ag, cg, rfl⟩ := Sl.shape hg8
  rw [show (row c 0).getD (Int.toNat 0) 0 = eC c 0 0 from hre 0 0]
  refine W.loop (fun m ρ w9 => ∃ (i : Nat) (t : Int), m = c.length - i ∧ i ≤ c.length ∧ ρ = [(0, .int .i64 ((n0 + 1 : Nat) : Int)), (2, .slice Al by_.length cl), (7, .slice Ac c.length cc), (8, .slice Ag g.length cg), (14, .int .i64 t), (15, .bool false), (16, .int .i64 i)] ∧ Below w8.heap.size w8 w9 ∧ (∀ p q, p < i → q < c.length → t ≤ eC c p q) ∧ ∃ p q, p < c.length ∧ q < c.length ∧ t = eC c p q)
    ⟨_, _, ⟨0, _, rfl, Nat.zero_le _, rfl, hb88, fun p q hp => by omega, 0, 0, by omega, by omega, rfl⟩, (by repeat (first | exact trivial | refine And.intro rfl ?_))⟩ ?_
  rintro m ρ w9 ⟨i, t, rfl, hi, rfl, hb9, hle1, hex⟩
  (repeat (first | with_reducible refine W.seq ?_ | with_reducible refine Ops.nil ?_ | with_reducible refine W.region ?_ | refine z_p (kk := ?_)))
  (first | refine W.condD rfl (fun hc => ?_) (fun hc => ?_) | refine W.condE rfl (fun hc => ?_) (fun hc => ?_) | refine W.condN rfl (fun hc => ?_) (fun hc => ?_) | refine W.cond rfl (fun hc => ?_) (fun hc => ?_))
  · have hil : i < c.length := by omega
    (repeat (first | with_reducible refine W.seq ?_ | with_reducible refine Ops.nil ?_ | with_reducible refine W.region ?_ | refine z_p (kk := ?_) | with_reducible refine W.skip ?_ | with_reducible refine W.block ?_))
    refine W.loop (fun m ρ w10 => ∃ (j : Nat) (t : Int), m = c.length - j ∧ j ≤ c.length ∧ ρ = [(0, .int .i64 ((n0 + 1 : Nat) : Int)), (2, .slice Al by_.length cl), (7, .slice Ac c.length cc), (8, .slice Ag g.length cg), (14, .int .i64 t), (15, .bool false), (16, .int .i64 i), (17, .int .i64 j)] ∧ Below w8.heap.size w8 w10 ∧ (∀ p q, q < c.length → (p < i ∨ (p = i ∧ q < j)) → t ≤ eC c p q) ∧ ∃ p q, p < c.length ∧ q < c.length ∧ t = eC c p q)
      ⟨_, _, ⟨0, t, rfl, Nat.zero_le _, rfl, hb9, fun p q hq h => hle1 p q (by omega) hq, hex⟩, (by repeat (first | exact trivial | refine And.intro rfl ?_))⟩ ?_
    clear hle1 hex hb9
    rintro m ρ w10 ⟨j, t, rfl, hj, rfl, hb10, hle1, hex⟩
    (repeat (first | with_reducible refine W.seq ?_ | with_reducible refine Ops.nil ?_ | with_reducible refine W.region ?_ | refine z_p (kk := ?_)))
    (first | refine W.condD rfl (fun hc => ?_) (fun hc => ?_) | refine W.condE rfl (fun hc => ?_) (fun hc => ?_) | refine W.condN rfl (fun hc => ?_) (fun hc => ?_) | refine W.cond rfl (fun hc => ?_) (fun hc => ?_))
    · have hjl : j < c.length := by omega
      have hri := hrl i hil
      (repeat (first | with_reducible refine W.seq ?_ | with_reducible refine Ops.nil ?_ | with_reducible refine W.region ?_ | refine z_p (kk := ?_) | refine z_a (kk := ?_) | with_reducible refine W.skip ?_ | with_reducible refine W.endb ?_ | with_reducible refine W.block ?_ | refine z_m (kk := ?_) | refine z_I (kk := fun _ => ?_) | refine z_r (kk := fun _ _ _ _ => ?_)))
      rw [hre]
      refine W.endl ⟨_, _, ⟨⟨j + 1, _, rfl, by omega, rfl, hb10, fun p q hq h => ?_, ?_⟩, by omega⟩, (by repeat (first | exact trivial | refine And.intro rfl ?_))⟩
      · by_cases e : p = i ∧ q = j
        · rw [e.1, e.2]; exact Int.min_le_right _ _
        · exact Int.le_trans (Int.min_le_left _ _) (hle1 p q hq (by omega))
      · rcases Int.le_total t (eC c i j) with h | h
        · rw [Int.min_eq_left h]; exact hex
        · rw [Int.min_eq_right h]; exact ⟨i, j, hil, hjl, rfl⟩
    · have hjl : j = c.length := by omega
      subst hjl
      (repeat (first | with_reducible refine Ops.nil ?_ | with_reducible refine W.region ?_ | refine z_p (kk := ?_) | refine z_a (kk := ?_) | with_reducible refine W.endb ?_ | refine W.exit rfl ?_))
      exact W.endl ⟨_, _, ⟨⟨i + 1, t, rfl, by omega, rfl, hb10, fun p q hp hq => hle1 p q hq (by omega), hex⟩, by omega⟩, (by repeat (first | exact trivial | refine And.intro rfl ?_))⟩
  · have hil : i = c.length := by omega
    subst hil
    have hL : t = eC c xL (funA g xL) := by
      obtain ⟨p, q, hp, hq, e⟩ := hex
      have h1 := hle p q hp hq
      have h2 := hle1 xL (funA g xL) hxL (hgA.funA hxL).2
      omega
    clear hle1 hex
    (repeat (first | with_reducible refine W.seq ?_ | with_reducible refine Ops.nil ?_ | with_reducible refine W.region ?_ | refine z_p (kk := ?_) | with_reducible refine W.block ?_ | refine W.exit rfl ?_))
    refine W.loop (fun m ρ w10 => ∃ (i : Nat) (b : Bool), m = c.length - i ∧ i ≤ c.length ∧ ρ = [(0, .int .i64 ((n0 + 1 : Nat) : Int)), (2, .slice Al by_.length cl), (7, .slice Ac c.length cc), (8, .slice Ag g.length cg), (14, .int .i64 t), (15, .bool b), (18, .int .i64 i)] ∧ Below w8.heap.size w8 w10 ∧ (xL < i → b = true))
      ⟨_, _, ⟨0, false, rfl, Nat.zero_le _, rfl, hb9, fun h => by omega⟩, (by repeat (first | exact trivial | refine And.intro rfl ?_))⟩ ?_
    clear hb9
    rintro m ρ w10 ⟨i, b, rfl, hi, rfl, hb10, hany⟩
    (repeat (first | with_reducible refine W.seq ?_ | with_reducible refine Ops.nil ?_ | with_reducible refine W.region ?_ | refine z_p (kk := ?_)))
    (first | refine W.condD rfl (fun hc => ?_) (fun hc => ?_) | refine W.condE rfl (fun hc => ?_) (fun hc => ?_) | refine W.condN rfl (fun hc => ?_) (fun hc => ?_) | refine W.cond rfl (fun hc => ?_) (fun hc => ?_))
    · have hil : i < c.length := by omega
      have hri := hrl i hil
      have hgi := hgA.funA hil
      have hgl := hgA.1
      (repeat (first | with_reducible refine W.seq ?_ | with_reducible refine W.skip ?_ | with_reducible refine W.block ?_))
      refine W.ordA 99 [(0, 1), (1, 1), (2, 1), (3, 1), (4, 1), (5, 2), (6, 1), (7, 1), (8, 1), (9, 2), (10, 1), (11, 2), (12, 1), (13, 1), (14, 1), (15, 1)] rfl (by kernel_rfl) rfl (by kernel_rfl) (fun _ _ _ h => h) ?_
      cases b with
      | true =>
        (repeat (first | refine x_p (kk := ?_) | refine x_n (kk := ?_)))
        refine OrdA.nil (fun w11 hb11 => ?_)
        (repeat (first | with_reducible refine Ops.nil ?_ | with_reducible refine W.region ?_ | refine z_p (kk := ?_) | refine z_a (kk := ?_) | with_reducible refine W.endb ?_))
        exact W.endl ⟨_, _, ⟨⟨i + 1, true, rfl, by omega, rfl, Below.via hb10 hb11, fun _ => rfl⟩, by omega⟩, (by repeat (first | exact trivial | refine And.intro rfl ?_))⟩
      | false =>
        (repeat (first | refine x_p (kk := ?_) | refine x_I (kk := fun _ => ?_) | refine x_K (kk := fun _ => ?_) | refine x_r (kk := fun _ _ _ _ => ?_)))
        refine OrdA.nil (fun w11 hb11 => ?_)
        (repeat (first | with_reducible refine Ops.nil ?_ | with_reducible refine W.region ?_ | refine z_p (kk := ?_) | refine z_a (kk := ?_) | with_reducible refine W.endb ?_))
        refine W.endl ⟨_, _, ⟨⟨i + 1, _, rfl, by omega, rfl, Below.via hb10 hb11, fun h => ?_⟩, by omega⟩, (by repeat (first | exact trivial | refine And.intro rfl ?_))⟩
        by_cases e : xL < i
        · cases hany e
        · have e2 : xL = i := by omega
          rw [hL, e2, hre]
          exact beq_self_eq_true _
    · have hil : i = c.length := by omega
      subst hil
      obtain rfl := hany hxL
      have hb010 := Below.via hb08 hb10
      (repeat (first | with_reducible refine W.seq ?_ | with_reducible refine W.region ?_ | refine z_p (kk := ?_) | refine W.exit rfl ?_))
      refine Ops.call rfl rfl rfl rfl rfl (tame_c (RowsM.nil _) (n := n0 + 1) (by omega) (by omega) (by omega)) (fun tv w11 hR => ?_)
      obtain ⟨fvs, hR⟩ := hR
      have hb11 := hR.o.bel
      have hF0 : RW w10 w11 tv fvs (n0 + 1) (flT by_ (n0 + 1) 0 0) := hR.congr (fun q hq => by
        unfold flT tmR fl
        refine List.map_congr_left fun j hj => ?_
        simp [tmV])
      clear hR
      have hfl := hF0.len
      obtain ⟨Af, cf, rfl⟩ := hF0.o.sh
      rw [hfl] at hF0 ⊢
      (repeat (first | with_reducible refine W.seq ?_ | with_reducible refine Ops.nil ?_ | with_reducible refine W.region ?_ | refine z_p (kk := ?_) | with_reducible refine W.block ?_))
      refine W.loop (fun m ρ w12 => ∃ (x : Nat), m = n0 + 1 - x ∧ x ≤ n0 + 1 ∧ ρ = [(0, .int .i64 ((n0 + 1 : Nat) : Int)), (2, .slice Al by_.length cl), (15, .bool true), (19, .slice Af (n0 + 1) cf), (20, .int .i64 x)] ∧ RW w10 w12 (.slice Af (n0 + 1) cf) fvs (n0 + 1) (flT by_ (n0 + 1) x 0))
        ⟨_, _, ⟨0, rfl, Nat.zero_le _, rfl, hF0⟩, (by repeat (first | exact trivial | refine And.intro rfl ?_))⟩ ?_
      clear hF0 hb11
      rintro m ρ w12 ⟨x, rfl, hx, rfl, hD⟩
      (repeat (first | with_reducible refine W.seq ?_ | with_reducible refine Ops.nil ?_ | with_reducible refine W.region ?_ | refine z_p (kk := ?_)))
      by_cases hxl : x < n0 + 1
      · refine W.condT rfl (by first | rfl | assumption | (simp only [bnf] <;> omega) | (simp only [*, bnf]; done) | fail) ?_
        (repeat (first | with_reducible refine W.seq ?_ | with_reducible refine W.region ?_ | refine z_p (kk := ?_) | with_reducible refine W.skip ?_ | with_reducible refine W.block ?_))
        refine Ops.rdBn (enc := fun v : Value => v) (z := undef) rfl rfl rfl rfl rfl rfl (fun _ => rfl) rfl rfl rfl rfl rfl rfl hD.o.sl (Below.refl _ _) (by omega) (fun _ => ?_)
        (repeat (first | with_reducible refine W.seq ?_ | with_reducible refine Ops.nil ?_ | with_reducible refine W.region ?_ | refine z_p (kk := ?_) | with_reducible refine W.block ?_))
        refine W.loop (fun m ρ w13 => ∃ (y : Nat), m = n0 + 1 - y ∧ y ≤ n0 + 1 ∧ ρ = [(0, .int .i64 ((n0 + 1 : Nat) : Int)), (2, .slice Al by_.length cl), (15, .bool true), (19, .slice Af (n0 + 1) cf), (20, .int .i64 x), (21, fvs.getD x undef), (22, .int .i64 y)] ∧ RW w10 w13 (.slice Af (n0 + 1) cf) fvs (n0 + 1) (flT by_ (n0 + 1) x y))
          ⟨_, _, ⟨0, rfl, Nat.zero_le _, rfl, hD⟩, (by repeat (first | exact trivial | refine And.intro rfl ?_))⟩ ?_
        clear hD
        rintro m ρ w13 ⟨y, rfl, hy, rfl, hD⟩
        have hr13 := hD.rows x hxl
        have hb13 := hD.o.bel
        by_cases hyl : y < n0 + 1
        · have hlen13 : (flT by_ (n0 + 1) x y x).length = n0 + 1 := fl_len _ _
          have h0v : (flT by_ (n0 + 1) x y x).getD y 0 = 0 := by unfold flT; rw [fl_get hyl, if_neg (by omega)]
          have hby13 : SlI w13 (.slice Al by_.length cl) by_ := Sl.below hl.1 (Below.via hb010 hb13)
          have hsl13 : SlI w13 (fvs.getD x undef) (flT by_ (n0 + 1) x y x) := hr13.sl
          have u1 := uF_bd by_ x
          have u2 := uF_bd by_ (n0 + 1 + y)
          obtain ⟨Ax, cx, ex⟩ := hr13.sh
          have hbb13 : Below w13.heap.size w13 w13 := Below.refl _ _
          (repeat (first | with_reducible refine W.seq ?_ | with_reducible refine Ops.nil ?_ | with_reducible refine W.region ?_ | refine z_p (kk := ?_)))
          refine W.condT rfl (by first | rfl | assumption | (simp only [bnf] <;> omega) | (simp only [*, bnf]; done) | fail) ?_
          (repeat (first | with_reducible refine W.seq ?_ | with_reducible refine Ops.nil ?_ | with_reducible refine W.region ?_ | refine z_p (kk := ?_) | with_reducible refine W.skip ?_ | with_reducible refine W.block ?_ | refine z_l (kk := ?_)))
          by_cases hx2 : (x : Int) < by_.length
          · have hu1 : modI (by_.getD x 0) 500 = uF by_ x := by unfold uF; rw [if_pos (by omega)]
            refine W.condT rfl (by first | rfl | assumption | (simp only [bnf] <;> omega) | (simp only [*, bnf]; done) | fail) ?_
            skip
            refine W.ordA 13 [(0, 1), (1, 1), (2, 1), (3, 1), (4, 1), (5, 2), (6, 1), (7, 1), (8, 1), (9, 2), (10, 2), (11, 1), (12, 1), (13, 0)] rfl (by kernel_rfl) rfl (by kernel_rfl) (fun _ _ _ h => h) ?_
            (repeat (first | refine x_p (kk := ?_) | refine x_I (kk := fun _ => ?_)))
            refine OrdA.call rfl rfl rfl rfl rfl rfl rfl (fun w' hw' => Calls.same hw' (mod_c _ _ _ (by omega) (by omega))) ?_
            rw [h0v, hu1]
            (repeat (first | refine x_a (kk := ?_)))
            refine OrdA.wrO (enc := Value.int .i64) (u := 0 + uF by_ x) (os := flT by_ (n0 + 1) x y x) rfl rfl rfl rfl rfl rfl rfl rfl rfl rfl rfl rfl rfl rfl (fun _ => rfl) rfl hr13 (fun _ h => h) (by omega) (by omega) (fun w4 w14 p hF4 hO5 hk5 hz5 => ?_)
            refine VW.Ord.nil ?_
            rw [Int.toNat_natCast] at hO5
            have hE := ((hD.below hF4).wrow hxl hO5 hk5).congr (T' := flU by_ (n0 + 1) x y) (fun q hq => flU_a (by omega))
            clear hF4 hO5 hk5 hz5 hsl13 hby13 hbb13 hD hr13
            have hr14 := hE.rows x hxl
            have hb14 := hE.o.bel
            have hlen14 : (flU by_ (n0 + 1) x y x).length = n0 + 1 := fl_len _ _
            have hv14 : (flU by_ (n0 + 1) x y x).getD y 0 = uF by_ x := by unfold flU; rw [fl_get hyl, if_pos ⟨rfl, rfl⟩]
            have hby14 : SlI w14 (.slice Al by_.length cl) by_ := Sl.below hl.1 (Below.via hb010 hb14)
            have hsl14 : SlI w14 (fvs.getD x undef) (flU by_ (n0 + 1) x y x) := hr14.sl
            have hbb14 : Below w14.heap.size w14 w14 := Below.refl _ _
            (repeat (first | with_reducible refine W.seq ?_ | with_reducible refine Ops.nil ?_ | with_reducible refine W.region ?_ | refine z_p (kk := ?_) | refine z_a (kk := ?_) | refine z_l (kk := ?_)))
            by_cases h2 : ((n0 + 1 : Nat) : Int) + (y : Int) < by_.length
            · have hu2 : modI (by_.getD (n0 + 1 + y) 0) 500 = uF by_ (n0 + 1 + y) := by
                unfold uF
                rw [if_pos (by omega)]
              refine W.condT rfl (by first | rfl | assumption | (simp only [bnf] <;> omega) | (simp only [*, bnf]; done) | fail) ?_
              skip
              refine W.ordA 15 [(0, 1), (1, 1), (2, 1), (3, 1), (4, 1), (5, 2), (6, 1), (7, 1), (8, 1), (9, 1), (10, 1), (11, 2), (12, 2), (13, 1), (14, 1), (15, 0)] rfl (by kernel_rfl) rfl (by kernel_rfl) (fun _ _ _ h => h) ?_
              (repeat (first | refine x_p (kk := ?_) | refine x_a (kk := ?_) | refine x_I (kk := fun _ => ?_)))
              refine OrdA.call rfl rfl rfl rfl rfl rfl rfl (fun w' hw' => Calls.same hw' (mod_c _ _ _ (by omega) (by omega))) ?_
              rw [hv14, hu2]
              (repeat (first | refine x_a (kk := ?_)))
              refine OrdA.wrO (enc := Value.int .i64) (u := uF by_ x - uF by_ (n0 + 1 + y)) (os := flU by_ (n0 + 1) x y x) rfl rfl rfl rfl rfl rfl rfl rfl rfl rfl rfl rfl rfl rfl (fun _ => rfl) rfl hr14 (fun _ h => h) (by omega) (by omega) (fun w15 w16 p hF4 hO5 hk5 hz5 => ?_)
              refine VW.Ord.nil ?_
              rw [Int.toNat_natCast] at hO5
              have hE2 := ((hE.below hF4).wrow hxl hO5 hk5).congr (T' := flT by_ (n0 + 1) x (y + 1)) (fun q hq => flV_a rfl)
              (repeat (first | with_reducible refine Ops.nil ?_ | with_reducible refine W.region ?_ | refine z_p (kk := ?_) | refine z_a (kk := ?_) | with_reducible refine W.endb ?_))
              exact W.endl ⟨_, _, ⟨⟨y + 1, rfl, by omega, rfl, hE2⟩, by omega⟩, (by repeat (first | exact trivial | refine And.intro rfl ?_))⟩
            · have hE2 := hE.congr (T' := flT by_ (n0 + 1) x (y + 1)) (fun q hq => flV_b (by unfold uF; rw [if_neg (by omega)]))
              refine W.condF rfl (by first | rfl | assumption | (simp only [bnf] <;> omega) | (simp only [*, bnf]; done) | fail) ?_
              (repeat (first | with_reducible refine Ops.nil ?_ | with_reducible refine W.region ?_ | refine z_p (kk := ?_) | refine z_a (kk := ?_) | with_reducible refine W.skip ?_ | with_reducible refine W.endb ?_))
              exact W.endl ⟨_, _, ⟨⟨y + 1, rfl, by omega, rfl, hE2⟩, by omega⟩, (by repeat (first | exact trivial | refine And.intro rfl ?_))⟩
          · have hE := hD.congr (T' := flU by_ (n0 + 1) x y) (fun q hq => flU_b (by unfold uF; rw [if_neg (by omega)]))
            clear hsl13 hby13 hbb13 hr13
            refine W.condF rfl (by first | rfl | assumption | (simp only [bnf] <;> omega) | (simp only [*, bnf]; done) | fail) ?_
            have hr14 := hE.rows x hxl
            have hb14 := hE.o.bel
            have hlen14 : (flU by_ (n0 + 1) x y x).length = n0 + 1 := fl_len _ _
            have hv14 : (flU by_ (n0 + 1) x y x).getD y 0 = uF by_ x := by unfold flU; rw [fl_get hyl, if_pos ⟨rfl, rfl⟩]
            have hby14 : SlI w13 (.slice Al by_.length cl) by_ := Sl.below hl.1 (Below.via hb010 hb14)
            have hsl14 : SlI w13 (fvs.getD x undef) (flU by_ (n0 + 1) x y x) := hr14.sl
            have hbb14 : Below w13.heap.size w13 w13 := Below.refl _ _
            (repeat (first | with_reducible refine W.seq ?_ | with_reducible refine Ops.nil ?_ | with_reducible refine W.region ?_ | refine z_p (kk := ?_) | refine z_a (kk := ?_) | with_reducible refine W.skip ?_ | refine z_l (kk := ?_)))
            by_cases h2 : ((n0 + 1 : Nat) : Int) + (y : Int) < by_.length
            · have hu2 : modI (by_.getD (n0 + 1 + y) 0) 500 = uF by_ (n0 + 1 + y) := by
                unfold uF
                rw [if_pos (by omega)]
              refine W.condT rfl (by first | rfl | assumption | (simp only [bnf] <;> omega) | (simp only [*, bnf]; done) | fail) ?_
              skip
              refine W.ordA 15 [(0, 1), (1, 1), (2, 1), (3, 1), (4, 1), (5, 2), (6, 1), (7, 1), (8, 1), (9, 1), (10, 1), (11, 2), (12, 2), (13, 1), (14, 1), (15, 0)] rfl (by kernel_rfl) rfl (by kernel_rfl) (fun _ _ _ h => h) ?_
              (repeat (first | refine x_p (kk := ?_) | refine x_a (kk := ?_) | refine x_I (kk := fun _ => ?_)))
              refine OrdA.call rfl rfl rfl rfl rfl rfl rfl (fun w' hw' => Calls.same hw' (mod_c _ _ _ (by omega) (by omega))) ?_
              rw [hv14, hu2]
              (repeat (first | refine x_a (kk := ?_)))
              refine OrdA.wrO (enc := Value.int .i64) (u := uF by_ x - uF by_ (n0 + 1 + y)) (os := flU by_ (n0 + 1) x y x) rfl rfl rfl rfl rfl rfl rfl rfl rfl rfl rfl rfl rfl rfl (fun _ => rfl) rfl hr14 (fun _ h => h) (by omega) (by omega) (fun w15 w16 p hF4 hO5 hk5 hz5 => ?_)
              refine VW.Ord.nil ?_
              rw [Int.toNat_natCast] at hO5
              have hE2 := ((hE.below hF4).wrow hxl hO5 hk5).congr (T' := flT by_ (n0 + 1) x (y + 1)) (fun q hq => flV_a rfl)
              (repeat (first | with_reducible refine Ops.nil ?_ | with_reducible refine W.region ?_ | refine z_p (kk := ?_) | refine z_a (kk := ?_) | with_reducible refine W.endb ?_))
              exact W.endl ⟨_, _, ⟨⟨y + 1, rfl, by omega, rfl, hE2⟩, by omega⟩, (by repeat (first | exact trivial | refine And.intro rfl ?_))⟩
            · have hE2 := hE.congr (T' := flT by_ (n0 + 1) x (y + 1)) (fun q hq => flV_b (by unfold uF; rw [if_neg (by omega)]))
              refine W.condF rfl (by first | rfl | assumption | (simp only [bnf] <;> omega) | (simp only [*, bnf]; done) | fail) ?_
              (repeat (first | with_reducible refine Ops.nil ?_ | with_reducible refine W.region ?_ | refine z_p (kk := ?_) | refine z_a (kk := ?_) | with_reducible refine W.skip ?_ | with_reducible refine W.endb ?_))
              exact W.endl ⟨_, _, ⟨⟨y + 1, rfl, by omega, rfl, hE2⟩, by omega⟩, (by repeat (first | exact trivial | refine And.intro rfl ?_))⟩
        · have hye : y = n0 + 1 := by omega
          subst hye
          have hD2 := hD.congr (T' := flT by_ (n0 + 1) (x + 1) 0) (fun q hq => by
            unfold flT
            refine fl_congr fun j hj => ?_
            have a1 : (q < x ∨ q = x ∧ j < n0 + 1) = (q < x + 1 ∨ q = x + 1 ∧ j < 0) := by apply propext; omega
            simp only [a1])
          (repeat (first | with_reducible refine W.seq ?_ | with_reducible refine Ops.nil ?_ | with_reducible refine W.region ?_ | refine z_p (kk := ?_)))
          refine W.condF rfl (by first | rfl | assumption | (simp only [bnf] <;> omega) | (simp only [*, bnf]; done) | fail) ?_
          (repeat (first | with_reducible refine Ops.nil ?_ | with_reducible refine W.region ?_ | refine z_p (kk := ?_) | refine z_a (kk := ?_) | with_reducible refine W.endb ?_ | refine W.exit rfl ?_))
          exact W.endl ⟨_, _, ⟨⟨x + 1, rfl, by omega, rfl, hD2⟩, by omega⟩, (by repeat (first | exact trivial | refine And.intro rfl ?_))⟩
      · refine W.condF rfl (by first | rfl | assumption | (simp only [bnf] <;> omega) | (simp only [*, bnf]; done) | fail) ?_
        have hxe : x = n0 + 1 := by omega
        subst hxe
        have hMf := hD.rowsM
        change RowsM w12 _ (flC by_ (n0 + 1)) at hMf
        have hb12 := hD.o.bel
        have hCf := flC_cst by_ (n := n0 + 1) (by omega) (by omega)
        have hflat := flC_flat by_ (n0 + 1)
        have hflen := flC_len by_ (n0 + 1)
        generalize flC by_ (n0 + 1) = d at *
        have hdB : costsB d = true := costs_iff.2 hCf
        have hb012 := Below.via hb010 hb12
        clear hD
        (repeat (first | with_reducible refine W.seq ?_ | with_reducible refine W.region ?_ | refine z_p (kk := ?_) | refine W.exit rfl ?_))
        refine Ops.call rfl rfl rfl rfl rfl (Greedy_c hMf) (fun r w14 hR => ?_)
        obtain ⟨hb14, -, hR⟩ := hR
        obtain ⟨gv2, os2, rfl, hper2, hsrt2, hG2⟩ := hR hdB
        have hgA2 := gr_asg (by omega) hCf.n7 hper2
        generalize grF os2 (List.replicate d.length (-1)) = g2 at *
        have hg14 := hG2.sl (z := (0 : Int))
        clear hG2 hper2 hsrt2
        have hM14 := hMf.below hb14
        (repeat (first | with_reducible refine W.seq ?_ | with_reducible refine Ops.nil ?_ | with_reducible refine W.region ?_ | refine z_p (kk := ?_)))
        refine Ops.call rfl rfl rfl rfl rfl (Best_c hM14) (fun r w15 hR => ?_)
        obtain ⟨hb15, -, hR⟩ := hR
        obtain ⟨av2, uv2, vv2, uu2, vw2, rfl, hA2, hR⟩ := hR hdB
        have hf15 := hA2.sl (z := (0 : Int))
        rw [hflat.first] at hf15
        clear hA2 hR
        have hM15 := hM14.below hb15
        have hg15 := Sl.below hg14 hb15
        have hfA2 := ordL_asg [] d.length
        (repeat (first | with_reducible refine W.seq ?_ | with_reducible refine Ops.nil ?_ | with_reducible refine W.region ?_ | refine z_p (kk := ?_) | refine z_y (kk := ?_)))
        refine Ops.call rfl rfl rfl rfl rfl (refAsg_c hg15 (n := n0 + 1) (by omega)) (fun r w16 hR => ?_)
        obtain ⟨rfl, hb16⟩ := hR
        rw [decide_eq_true (show Asg g2 (n0 + 1) by rw [← hflen]; exact hgA2)]
        (repeat (first | refine z_p (kk := ?_) | refine z_y (kk := ?_)))
        refine Ops.call rfl rfl rfl rfl rfl (refAsg_c (Sl.below hf15 hb16) (n := n0 + 1) (by omega)) (fun r w17 hR => ?_)
        obtain ⟨rfl, hb17⟩ := hR
        rw [decide_eq_true (show Asg (ordL [] d.length) (n0 + 1) by rw [← hflen]; exact hfA2)]
        have hb1517 := Below.via hb16 hb17
        have hM17 := hM15.below hb1517
        (repeat (first | refine z_p (kk := ?_) | refine z_y (kk := ?_)))
        refine Ops.call rfl rfl rfl rfl rfl (refTotal_c hM17 hCf (Sl.below hg15 hb1517) (fun q hq => (hgA2.2 q hq).1) (by rw [hgA2.1]; exact Nat.le_refl _)) (fun r w18 hR => ?_)
        obtain ⟨rfl, hb18⟩ := hR
        (repeat (first | refine z_p (kk := ?_) | refine z_y (kk := ?_)))
        refine Ops.call rfl rfl rfl rfl rfl (refTotal_c (hM17.below hb18) hCf (Sl.below hf15 (Below.via hb1517 hb18)) (fun q hq => (hfA2.2 q hq).1) (by rw [hfA2.1]; exact Nat.le_refl _)) (fun r w19 hR => ?_)
        obtain ⟨rfl, hb19⟩ := hR
        have hteq : totP d g2 g2.length = totP d (ordL [] d.length) (ordL [] d.length).length := by rw [hgA2.1, hfA2.1, hflat.tot hgA2, hflat.tot hfA2]
        rw [hteq]
        (repeat (first | refine z_p (kk := ?_) | refine z_y (kk := ?_) | refine z_h (kk := ?_)))
        refine Ops.call rfl rfl rfl rfl rfl (order_c (Sl.nil _ _ _ _ _) (n := n0 + 1) (by omega)) (fun ov w20 hO => ?_)
        have hb20 := hO.bel
        have hs20 := hO.sl (z := (0 : Int))
        rw [← hflen] at hs20
        (repeat (first | refine z_y (kk := ?_)))
        refine Ops.call rfl rfl rfl rfl rfl (ints_c (Sl.below hf15 (Below.via hb1517 (Below.via hb18 (Below.via hb19 hb20)))) hs20) (fun r w21 hR => ?_)
        obtain ⟨rfl, hb21⟩ := hR
        rw [decide_eq_true rfl]
        (repeat (first | refine z_p (kk := ?_) | refine z_y (kk := ?_)))
        refine Ops.call rfl rfl rfl rfl rfl (awake_c _) (fun r w22 hR => ?_)
        obtain ⟨rfl, hb22⟩ := hR
        (repeat (first | with_reducible refine Ops.nil ?_ | refine z_p (kk := ?_)))
        exact W.fret rfl ⟨rfl, Below.via hb012 (Below.via hb14 (Below.via hb15 (Below.via hb1517 (Below.via hb18 (Below.via hb19 (Below.via hb20 (Below.via hb21 hb22)))))))⟩
end Go.Proofs.Ytehjmakiljhjdaa
