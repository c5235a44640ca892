/- A part of the walk: what this seat's statements share. -/
import Derived.Test.YtehjmakiljhjdaaZG10
import Derived.Test.YtehjmakiljhjdaaZG3
import Derived.Test.YtehjmakiljhjdaaZG4
import Derived.Test.YtehjmakiljhjdaaZG11
import Derived.Test.YtehjmakiljhjdaaZG9
import Derived.Test.YtehjmakiljhjdaaZG6
set_option linter.unusedVariables false
set_option linter.unusedSimpArgs false
set_option linter.unusedSectionVars false
namespace Go.Proofs.Ytehjmakiljhjdaa
open Go Go.RowKit Go.Proofs.Ytehjmakiljhjdaa.VW
attribute [local irreducible] W Ops OrdA VW.Ord OrdX
theorem wrapU {n : Nat} (h : n ≤ 60) : IntKind.u64.wrap (n : Int) = n := by
  simp only [IntKind.wrap, IntKind.bits, IntKind.signed]
  simp
  omega
theorem mul64_c (n : Nat) (hn : n < 61) (w : World) : Calls Try.prog 112 #[.int .u64 1, .int .u64 n] w (Ret fun r w' => r = .tuple #[.int .u64 0, .int .u64 n] ∧ w' = w) := by
  refine calls_W (vs := [_, _]) Try.func112 rfl (by kernel_rfl) rfl ?_
  (repeat (first | with_reducible refine W.seq ?_ | with_reducible refine Ops.nil ?_ | with_reducible refine W.region ?_ | refine z_p (kk := ?_) | refine Ops.evG rfl rfl rfl (EV.bw rfl rfl rfl rfl) ?_ | refine Ops.evG rfl rfl rfl (EV.bsh rfl rfl rfl rfl) ?_))
  refine W.fret rfl ⟨?_, rfl⟩
  refine congr (congrArg (fun a b => Value.tuple #[.int .u64 a, .int .u64 b]) ?_) ?_
  · clear w
    obtain ⟨m, rfl⟩ : ∃ m : Fin 61, n = m.val := ⟨⟨n, hn⟩, rfl⟩
    clear hn
    revert m
    decide +kernel
  · clear w
    obtain ⟨m, rfl⟩ : ∃ m : Fin 61, n = m.val := ⟨⟨n, hn⟩, rfl⟩
    clear hn
    revert m
    decide +kernel
theorem mul_c (n : Nat) (hn : n < 61) (w : World) : Calls Try.prog 94 #[.int .u64 1, .int .u64 n] w (Ret fun r w' => r = .tuple #[.int .u64 0, .int .u64 n] ∧ w' = w) := by
  refine calls_W (vs := [_, _]) Try.func94 rfl (by kernel_rfl) rfl ?_
  (repeat (first | with_reducible refine W.seq ?_ | with_reducible refine Ops.nil ?_ | with_reducible refine W.region ?_ | refine z_p (kk := ?_)))
  refine W.condF rfl (by first | rfl | assumption | (simp only [bnf] <;> omega) | (simp only [*, bnf]; done) | fail) ?_
  (repeat (first | with_reducible refine W.seq ?_ | with_reducible refine W.region ?_ | refine z_p (kk := ?_) | with_reducible refine W.skip ?_))
  refine Ops.callS rfl rfl rfl rfl rfl (mul64_c n hn w) ?_
  (repeat (first | with_reducible refine W.seq ?_ | with_reducible refine Ops.nil ?_ | with_reducible refine W.region ?_ | refine z_p (kk := ?_)))
  exact W.fret rfl ⟨rfl, rfl⟩
set_option maxHeartbeats 1000000 in
theorem repeat_c {w : World} {v : Value} {n : Nat} (hv : SlI w v [-1]) (h1 : 1 ≤ n) (hn : n ≤ 60) : Calls Try.prog 78 #[v, .int .i64 n] w (Ret fun r w' => OI 3 (Value.int .i64) w w' r (List.replicate n (-1))) := by
  obtain ⟨A, c, rfl⟩ := Sl.shape hv
  refine calls_W (vs := [_, _]) Try.func78 rfl (by kernel_rfl) rfl ?_
  (repeat (first | with_reducible refine W.seq ?_ | with_reducible refine Ops.nil ?_ | with_reducible refine W.region ?_ | refine z_p (kk := ?_)))
  refine W.condF rfl (by first | rfl | assumption | (simp only [bnf] <;> omega) | (simp only [*, bnf]; done) | fail) ?_
  (repeat (first | with_reducible refine W.seq ?_ | with_reducible refine W.region ?_ | refine z_p (kk := ?_) | with_reducible refine W.skip ?_ | refine z_l (kk := ?_)))
  refine Ops.cv rfl rfl rfl rfl rfl rfl ?_
  (repeat (first | refine z_p (kk := ?_)))
  refine Ops.cv rfl rfl rfl rfl rfl rfl ?_
  rw [wrapU hn, show IntKind.u64.wrap (([-1] : List Int).length : Int) = 1 from rfl]
  skip
  refine Ops.callS rfl rfl rfl rfl rfl (mul_c n (by omega) w) ?_
  (repeat (first | with_reducible refine W.seq ?_ | with_reducible refine Ops.nil ?_ | with_reducible refine W.region ?_ | refine z_p (kk := ?_) | refine z_y (kk := ?_)))
  refine W.condF rfl (by first | rfl | assumption | (simp only [bnf] <;> omega) | (simp only [*, bnf]; done) | fail) ?_
  (repeat (first | with_reducible refine W.seq ?_ | with_reducible refine W.region ?_ | refine z_p (kk := ?_) | with_reducible refine W.skip ?_))
  refine Ops.cv rfl rfl rfl rfl rfl rfl ?_
  rw [wrap_in ⟨by omega, by omega⟩]
  refine Ops.mkO (w0 := w) (Value.int .i64) 0 rfl rfl rfl rfl rfl rfl rfl rfl rfl (by omega) rfl (Below.refl _ _) (fun w2 dr hO2 k2 _ => ?_)
  (repeat (first | with_reducible refine W.seq ?_ | with_reducible refine Ops.nil ?_ | with_reducible refine W.region ?_ | refine z_p (kk := ?_)))
  have hl2 : (List.replicate n (0 : Int)).length = n := by simp
  generalize List.replicate n (0 : Int) = os2 at *
  refine Ops.cpO (enc := Value.int .i64) (z := 0) rfl rfl rfl rfl rfl rfl rfl hO2 (Sl.kp hv k2 (fun _ _ e => e)) (by simp) (by omega) (fun _ => rfl) (fun w3 hO3 k3 _ => ?_)
  have hmin : min ([-1] : List Int).length n = 1 := by simp; omega
  rw [hmin] at hO3
  rw [hmin]
  have hO3' : ∃ os : List Int, OI 3 (Value.int .i64) w w3 (.slice (some ⟨dr, 0, none⟩) n n) os ∧ os.length = n ∧ ∀ j, j < 1 → os.getD j 0 = -1 := ⟨_, hO3, by simp [hl2]; omega, fun j hj => by
    have : j = 0 := by omega
    subst this
    obtain ⟨m, rfl⟩ : ∃ m, n = m + 1 := ⟨n - 1, by omega⟩
    simp⟩
  clear hO3 hO2 k2 k3 hl2
  obtain ⟨os3, hO3, hl3, hv3⟩ := hO3'
  (repeat (first | with_reducible refine W.seq ?_ | with_reducible refine Ops.nil ?_ | refine z_p (kk := ?_) | with_reducible refine W.block ?_))
  refine W.loop (fun m ρ w4 => ∃ (k : Nat) (os : List Int), m = n - k ∧ 1 ≤ k ∧ k ≤ n ∧ ρ = [(7, .slice (some ⟨dr, 0, none⟩) n n), (8, .int .i64 k)] ∧ OI 3 (Value.int .i64) w w4 (.slice (some ⟨dr, 0, none⟩) n n) os ∧ os.length = n ∧ ∀ j, j < k → os.getD j 0 = -1)
    ⟨_, _, ⟨1, os3, rfl, Nat.le_refl _, h1, rfl, hO3, hl3, hv3⟩, (by repeat (first | exact trivial | refine And.intro rfl ?_))⟩ ?_
  clear hO3 hl3 hv3
  rintro m ρ w4 ⟨k, os, rfl, hk1, hkn, rfl, hO, hol, hvs⟩
  (repeat (first | with_reducible refine W.seq ?_ | with_reducible refine Ops.nil ?_ | with_reducible refine W.region ?_ | refine z_p (kk := ?_) | refine z_l (kk := ?_)))
  (first | refine W.condD rfl (fun hc => ?_) (fun hc => ?_) | refine W.condE rfl (fun hc => ?_) (fun hc => ?_) | refine W.condN rfl (fun hc => ?_) (fun hc => ?_) | refine W.cond rfl (fun hc => ?_) (fun hc => ?_))
  · (repeat (first | with_reducible refine W.skip ?_ | with_reducible refine W.block ?_))
    refine W.ordA 7 [(0, 1), (1, 1), (2, 1), (3, 1), (4, 1), (5, 1), (6, 1), (7, 0), (8, 1), (9, 1)] rfl (by kernel_rfl) rfl (by kernel_rfl) (fun _ _ _ h => h) ?_
    (repeat (first | refine x_p (kk := ?_)))
    refine OrdA.pure rfl rfl rfl rfl (fun _ => EV.slO rfl rfl rfl rfl rfl (by omega) (by omega) (Nat.le_refl _)) ?_
    (repeat (first | refine x_p (kk := ?_)))
    refine OrdA.pure rfl rfl rfl rfl (fun _ => EV.slH rfl rfl rfl rfl rfl (by omega) (by omega)) ?_
    rw [Int.toNat_natCast]
    refine OrdA.eff rfl (fun w5 hb5 => ?_)
    have hO5 := hO.below hb5
    have hs5 : SlI w5 (.slice (some ⟨dr, 0, none⟩) k n) (os.take k) := sl_take (m := n) hO5.sl k (by omega)
    have hlk : (os.take k).length = k := by simp; omega
    refine Ops.cpO (enc := Value.int .i64) (z := 0) rfl rfl rfl rfl rfl rfl rfl hO5 hs5 (by omega) (by omega) (fun _ => rfl) (fun w6 hO6 k6 _ => Ops.nil (W.endl ?_))
    rw [hlk] at hO6 ⊢
    have hlen6 : (os.take k ++ (os.take k).take (n - k) ++ os.drop (k + min k (n - k))).length = n := by simp; omega
    have hv6 : ∀ j, j < k + min k (n - k) → (os.take k ++ (os.take k).take (n - k) ++ os.drop (k + min k (n - k))).getD j 0 = -1 := fun j hj => by
      have hl : (os.take k ++ (os.take k).take (n - k)).length = k + min k (n - k) := by simp; omega
      rw [List.getD_eq_getElem?_getD, List.getElem?_append_left (by omega)]
      by_cases e : j < k
      · rw [List.getElem?_append_left (by omega), List.getElem?_take, if_pos e, ← List.getD_eq_getElem?_getD]
        exact hvs j e
      · rw [List.getElem?_append_right (by omega), hlk, List.take_take, List.getElem?_take, if_pos (by omega), ← List.getD_eq_getElem?_getD]
        exact hvs _ (by omega)
    (repeat (first | refine y_p (kk := ?_) | refine y_a (kk := ?_)))
    refine VW.Ord.nil ?_
    rw [show (k : Int) + ((min k (n - k) : Nat) : Int) = ((k + min k (n - k) : Nat) : Int) by omega]
    (repeat (first | with_reducible refine W.endb ?_))
    exact W.endl ⟨_, _, ⟨⟨k + min k (n - k), _, rfl, by omega, by omega, rfl, hO6, hlen6, hv6⟩, by omega⟩, (by repeat (first | exact trivial | refine And.intro rfl ?_))⟩
  · have hkn2 : k = n := by omega
    subst hkn2
    have hos : os = List.replicate k (-1) := by
      apply List.ext_getElem (by simp [hol])
      intro j h1 h2
      have := hvs j (by omega)
      rw [List.getD_eq_getElem?_getD, List.getElem?_eq_getElem h1] at this
      simpa using this
    rw [hos] at hO
    (repeat (first | with_reducible refine W.seq ?_ | with_reducible refine Ops.nil ?_ | with_reducible refine W.region ?_ | refine z_p (kk := ?_) | refine W.exit rfl ?_))
    exact W.fret rfl hO
end Go.Proofs.Ytehjmakiljhjdaa
namespace Go.Proofs.Ytehjmakiljhjdaa.VW
open Go Go.RowKit
theorem fl2_snoc {fa fb : Int → Value} {z : Int} : ∀ os : List Int, fl2 fa fb (os ++ [z]) = fl2 fa fb os ++ [fa z, fb z]
  | [] => rfl
  | x :: r => by simp only [List.cons_append, fl2, fl2_snoc r]
section
variable {P : Program} [hT : Tab P] {n : Nat} {ds : List Deferred} {Φ : Post} {k : List It} {ρ : E} {w : World} {all : Array Oper} {l : List Oper} {md : Option (List Oper)}
theorem Ops.bldA2 {o : Oper} {d t e : Nat} {x y : Operand} {u v z0 z1 : Value} (ho : o.op = .build t #[(0, x), (1, y)]) (hd : o.dst = some d) (hg : o.guard = none)
    (ht : tyD P t = some (.array 2 e)) (hs : tyS P e = some 1) (hz : tyZ P t = some (.agg #[z0, z1])) (hx : ev ρ x = some u) (hy : ev ρ y = some v) (h1 : u.oneCell' = true) (h2 : v.oneCell' = true)
    (kk : Ops md P n ds all k Φ l ((d, .agg #[u, v]) :: ρ) w) : Ops md P n ds all k Φ (o :: l) ρ w := by
  refine Ops.valS hd hg (fun a hr => ?_) kk
  have hcs : u.cells = #[u] := by cases u <;> simp_all [Value.oneCell', Value.cells]
  have hcs2 : v.cells = #[v] := by cases v <;> simp_all [Value.oneCell', Value.cells]
  have hzc : (Value.agg #[z0, z1]).cells = #[z0, z1] := rfl
  simp [execOp, ho, hr.ev hx, hr.ev hy, Instr.build, run_zeroV hz, run_und (td_array (tyD_ok ht)), run_sizeOf hs, Instr.fill, hzc, hcs, hcs2]
/-- append(s, [2]..{a, b}) at a row of elements of two cells. -/
theorem Ops.pushJ {fa fb : Int → Value} {w0 : World} {o1 o2 : Oper} {d1 d2 t e by' : Nat} {x y : Operand} {z : Int} {lv z0 z1 : Value} {os : List Int}
    (h1 : o1.op = .buildSlice t 1 #[(0, x)]) (hd1 : o1.dst = some d1) (hg1 : o1.guard = none) (h2 : o2.op = .call { callee := .builtin .append, args := #[y, .tmp d1], argTypes := #[t, t] }) (hd2 : o2.dst = some d2) (hg2 : o2.guard = none)
    (ht : tyD P t = some (.slice e)) (hs : tyS P e = some 2) (hb : tyB P e = some (by' + 1)) (hz : tyZ P e = some (.agg #[z0, z1])) (hx : ev ρ x = some (.agg #[fa z, fb z])) (hy : ∀ p, ev ((d1, p) :: ρ) y = some lv) (ha : (fa z).oneCell' = true) (hb1 : (fb z).oneCell' = true)
    (hO : OJ e fa fb w0 w lv os) (hbytes : (os.length + 1) * (by' + 1) ≤ 140737488355328)
    (hk : ∀ lv' p w', OJ e fa fb w0 w' lv' (os ++ [z]) → Kp (fun i => lv.ownBlock = some i) w w' → (∀ i, lv'.ownBlock = some i → lv.ownBlock = some i ∨ w.heap.size ≤ i) → Ops none P n ds all k Φ l ((d2, lv') :: (d1, p) :: ρ) w') : Ops none P n ds all k Φ (o1 :: o2 :: l) ρ w :=
  Ops.push2 h1 hd1 hg1 h2 hd2 hg2 ht hs hb hz hx hy ha hb1 hO.own hbytes (fun lv' p w' hown k1 hn => hk lv' p w' ⟨Below.put hO.bel k1 (fun i hi => hO.ge i hi), by rw [fl2_snoc, List.length_append, List.length_singleton]; exact hown, fun i hi => by rcases hn i hi with e | e; exact hO.ge i e; have := hO.bel.size; omega⟩ k1 hn)
end
end Go.Proofs.Ytehjmakiljhjdaa.VW
/- Plain: the pairs in order, and taking them greedily. -/
namespace Go.Proofs.Ytehjmakiljhjdaa
open Go Go.RowKit Go.Proofs.Ytehjmakiljhjdaa.VW
def prC (i j : Nat) : Int := ((7 * i + j : Nat) : Int)
theorem prC_a {i j : Nat} (h : j < 7) : prC i j / 7 = i ∧ prC i j % 7 = j := by unfold prC; omega
/-- The pairs before the pair (i, j). -/
def zsP (n : Nat) : Nat → Nat → List Int
  | 0, j => (List.range j).map (prC 0)
  | i + 1, j => zsP n i n ++ (List.range j).map (prC (i + 1))
theorem zsP_snoc {n : Nat} : ∀ i j, zsP n i (j + 1) = zsP n i j ++ [prC i j]
  | 0, j => by simp [zsP, List.range_succ]
  | i + 1, j => by simp [zsP, List.range_succ]
theorem zsP_next {n : Nat} (i : Nat) : zsP n (i + 1) 0 = zsP n i n := by simp [zsP]
theorem zsP_len {n : Nat} : ∀ i j, (zsP n i j).length = n * i + j
  | 0, j => by simp [zsP]
  | i + 1, j => by simp [zsP, zsP_len i n, Nat.mul_add]
/-- The next pair, taken or not. -/
def grS (g : List Int) (z : Int) : List Int := if g.getD (z / 7).toNat 0 < 0 ∧ ¬ (z % 7 ∈ g) then g.set (z / 7).toNat (z % 7) else g
theorem grS_len (g : List Int) (z : Int) : (grS g z).length = g.length := by unfold grS; split <;> simp
def grF (os : List Int) (g : List Int) : List Int := os.foldl grS g
theorem grF_snoc (os : List Int) (z : Int) (g : List Int) : grF (os ++ [z]) g = grS (grF os g) z := by simp [grF]
theorem grF_len : ∀ (os g : List Int), (grF os g).length = g.length
  | [], g => rfl
  | z :: r, g => by
    have := grF_len r (grS g z)
    rw [grS_len] at this
    exact this
end Go.Proofs.Ytehjmakiljhjdaa
namespace Go.Proofs.Ytehjmakiljhjdaa
open Go Go.RowKit Go.Proofs.Ytehjmakiljhjdaa.VW
open Go.Proofs.Ytehjmakiljhjdaa.HP (SegP SortK)
attribute [local irreducible] W Ops OrdA VW.Ord OrdX Wi OpsI OrdF
def kG (c : List (List Int)) (z : Int) : Int := ceA c z * 49 + z
theorem zsP_get {n : Nat} (hn : 0 < n) : ∀ (i j r : Nat), j ≤ n → r < n * i + j → (zsP n i j).getD r 0 = prC (r / n) (r % n)
  | 0, j, r, hj, hr => by
    have h1 : r < j := by omega
    rw [Nat.div_eq_of_lt (by omega), Nat.mod_eq_of_lt (by omega)]
    simp [zsP, List.getD_eq_getElem?_getD, h1]
  | i + 1, j, r, hj, hr => by
    rw [Nat.mul_add, Nat.mul_one] at hr
    have hl := zsP_len (n := n) i n
    simp only [zsP]
    by_cases h : r < n * i + n
    · rw [← zsP_get hn i n r (Nat.le_refl _) h]
      simp [List.getD_eq_getElem?_getD, List.getElem?_append_left (show r < (zsP n i n).length by omega)]
    · obtain ⟨t, rfl⟩ : ∃ t, r = n * i + n + t := ⟨r - (n * i + n), by omega⟩
      have ht : t < j := by omega
      have e1 : (n * i + n + t) / n = i + 1 := by
        rw [show n * i + n + t = t + n * (i + 1) by rw [Nat.mul_add]; omega, Nat.add_mul_div_left _ _ hn, Nat.div_eq_of_lt (by omega)]; omega
      have e2 : (n * i + n + t) % n = t := by
        rw [show n * i + n + t = t + n * (i + 1) by rw [Nat.mul_add]; omega, Nat.add_mul_mod_self_left, Nat.mod_eq_of_lt (by omega)]
      rw [e1, e2]
      simp only [List.getD_eq_getElem?_getD]
      rw [List.getElem?_append_right (by omega), hl, show n * i + n + t - (n * i + n) = t by omega]
      simp [ht]
theorem prC_mono {n p q : Nat} (hn : 0 < n) (h7 : n ≤ 7) (h : p < q) (hq : q < n * n) : prC (p / n) (p % n) < prC (q / n) (q % n) ∧ 0 ≤ prC (p / n) (p % n) ∧ prC (q / n) (q % n) < 49 := by
  have a1 := Nat.div_add_mod p n
  have a2 := Nat.div_add_mod q n
  have b1 := Nat.mod_lt p hn
  have b2 := Nat.mod_lt q hn
  have c1 : p / n ≤ q / n := Nat.div_le_div_right (by omega)
  have c2 : q / n < n := Nat.div_lt_of_lt_mul hq
  unfold prC
  by_cases e : p / n = q / n
  · rw [e] at a1 ⊢
    omega
  · omega
theorem prC_prI {c : List (List Int)} {p : Nat} (hn : 0 < c.length) (h7 : c.length ≤ 7) (h : p < c.length * c.length) : prI c (prC (p / c.length) (p % c.length)) := by
  have b1 := Nat.mod_lt p hn
  have c2 : p / c.length < c.length := Nat.div_lt_of_lt_mul h
  obtain ⟨t1, t2⟩ := prC_a (i := p / c.length) (j := p % c.length) (by omega)
  unfold prI
  rw [t1, t2]
  clear t1 t2
  exact ⟨⟨Int.natCast_nonneg _, by exact_mod_cast c2⟩, Int.natCast_nonneg _, by exact_mod_cast b1⟩
set_option maxHeartbeats 4000000 in
theorem Greedy_c {w : World} {cv : Value} {c : List (List Int)} (hM : RowsM w cv c) :
    Calls Try.prog 45 #[cv] w (Ret fun r w' => Below w.heap.size w w' ∧ (costsB c = false → r = .tuple #[.slice none 0 0, .int .i64 2]) ∧ (costsB c = true → ∃ v os, r = .tuple #[v, .int .i64 0] ∧ os.Perm (zsP c.length c.length 0) ∧ SortK (kG c) os 0 os.length ∧ OI 3 (Value.int .i64) w w' v (grF os (List.replicate c.length (-1))))) := by
  obtain ⟨Ac, cc, rfl⟩ := hM.sl
  refine calls_W (vs := [_]) Try.func45 rfl (by kernel_rfl) rfl ?_
  (repeat (first | with_reducible refine W.seq ?_ | with_reducible refine W.region ?_))
  refine Ops.box rfl rfl rfl rfl (fun w1 b1 hM1 => ?_)
  have hb1 := Mk.bel hM1
  have B1 : Blk w1 b1 #[.slice Ac c.length cc] 22 := hM1.at_
  have e1 := hM1.r_eq
  have s1 := hM1.size
  have hM1' := hM.below hb1
  have hb11 : Below w1.heap.size w1 w1 := Below.refl _ _
  (repeat (first | with_reducible refine W.seq ?_ | with_reducible refine Ops.nil ?_ | with_reducible refine W.region ?_ | refine z_p (kk := ?_) | refine z_d (kk := ?_)))
  refine Ops.call rfl rfl rfl rfl rfl (areCosts_c hM1') (fun r w2 hR => ?_)
  obtain ⟨rfl, hb2⟩ := hR
  cases hc : costsB c with
  | false =>
    (repeat (first | with_reducible refine Ops.nil ?_ | refine z_p (kk := ?_)))
    refine W.condT rfl (by first | rfl | assumption | (simp only [bnf] <;> omega) | (simp only [*, bnf]; done) | fail) ?_
    (repeat (first | with_reducible refine W.seq ?_ | with_reducible refine Ops.nil ?_ | with_reducible refine W.region ?_ | refine z_p (kk := ?_)))
    exact W.fret rfl ⟨Below.via hb1 hb2, fun _ => rfl, fun h => by cases h⟩
  | true =>
    have hC := costs_iff.1 hc
    have hn7 := hC.n7
    have hn1 := hC.n1
    (repeat (first | with_reducible refine Ops.nil ?_ | refine z_p (kk := ?_)))
    refine W.condF rfl (by first | rfl | assumption | (simp only [bnf] <;> omega) | (simp only [*, bnf]; done) | fail) ?_
    (repeat (first | with_reducible refine W.seq ?_ | with_reducible refine W.region ?_ | with_reducible refine W.skip ?_))
    refine Ops.alloc rfl rfl rfl rfl (fun w3 b4 hM4 => ?_)
    have e4 := hM4.r_eq
    have s4 := hM4.size
    have h12s := hb2.size
    have B4 : Blk w3 b4 #[.slice none 0 0] 100 := hM4.at_
    have hb13 : Below w1.heap.size w1 w3 := Below.via hb2 (Mk.bel hM4)
    have B13 : Blk w3 b1 #[.slice Ac c.length cc] 22 := B1.kp (Kp.of_below (S := fun _ => False) hb13) (fun e => e)
    have hb33 : Below w3.heap.size w3 w3 := Below.refl _ _
    refine Ops.nil ?_
    refine W.toJ (JW.seq (by exact rfl) ?_)
    (repeat (first | with_reducible refine W.region ?_ | refine z_d (kk := ?_)))
    refine Ops.call rfl rfl rfl rfl rfl pairs_c (fun rv wE hR => ?_)
    obtain ⟨b89, rfl, hB89, hge89, hlE⟩ := hR
    have hB89' : Blk wE b89 #[.slice Ac c.length cc] 71 := hB89
    have B1E : Blk wE b1 #[.slice Ac c.length cc] 22 := B13.kp (Kp.of_below (S := fun _ => False) hlE) (fun e => e)
    have B4E : Blk wE b4 #[.slice none 0 0] 100 := B4.kp (Kp.of_below (S := fun _ => False) hlE) (fun e => e)
    have hb0E := Below.via (Below.via hb1 hb13) hlE
    have g1 := B1E.lt
    have g4 := B4E.lt
    have g89 := hB89'.lt
    refine Ops.nil (W.endl ?_)
    have hge : b4 < w3.heap.size := B4.lt
    refine JW.sub (ρ' := [(1, .pointer (some ⟨b1, 0, none⟩)), (4, .pointer (some ⟨b4, 0, none⟩)), (14, .func (.func 89) #[] #[.pointer (some ⟨b89, 0, none⟩)])]) (by repeat (first | exact trivial | refine And.intro rfl ?_)) ?_
    refine JW.pairs (b1 := b89) (n := c.length) (A := Ac) (cap := cc) (I := fun i j W => Kp (fun k => k = b4) wE W ∧ ∃ v, Blk W b4 #[v] 100 ∧ OJ 37 fA fB w W v (zsP c.length i j) ∧ ∀ k, v.ownBlock = some k → wE.heap.size + 1 < k)
      (K := fun W => False) (by omega) rfl (by exact rfl) (by exact rfl) (by exact rfl) (fun i j W h => hB89'.kp h.1 (fun e => by omega)) (fun i W hi h => by rw [zsP_next]; exact h)
      (fun i j W W' h hk => ?_) (fun W W' h hk => h.elim) ⟨Kp.refl _ _, _, B4E, OJ.nil hb0E, fun k hk => by simp [Value.ownBlock] at hk⟩ (fun L i j wp hL h hi hj hW => ?_) (fun D w9 hD h hdf => ?_) (fun D w9 hD h hdf => h.elim)
    · obtain ⟨q0, v, q1, q2, q3⟩ := h
      refine ⟨(q0.trans hk).mono (fun k hk2 e => by omega), v, q1.kp hk (fun e => by omega), q2.kp hk (fun k e => ⟨by have := hb0E.size; omega, fun e2 => by have := q3 k e2; omega⟩), q3⟩
    · refine Wi.seq (Wi.regionN rfl rfl ?_)
      (repeat (first | with_reducible refine Ops.nil ?_ | refine z_p (kk := ?_)))
      refine W.endl ?_
      refine Wi.regionN rfl rfl ?_
      (repeat (first | with_reducible refine Ops.nil ?_ | refine z_p (kk := ?_)))
      refine W.endl ⟨rfl, rfl, fun wq h' hq => ?_⟩
      obtain ⟨q0, v, q1, q2, q3⟩ := h'
      have hpa := prC_a (i := i) (j := j) (by omega)
      have hzl := zsP_len (n := c.length) i j
      have hmul : c.length * i ≤ 7 * 7 := Nat.mul_le_mul hn7 (by omega)
      have hbqq : Below wq.heap.size wq wq := Below.refl _ _
      refine Wi.block (Wi.regionN rfl rfl ?_)
      (repeat (first | refine z_p (kk := ?_) | refine z_d (kk := ?_)))
      refine Ops.bldA2 rfl rfl rfl rfl rfl rfl rfl rfl rfl rfl ?_
      refine Ops.pushJ (fa := fA) (fb := fB) (z := prC i j) rfl rfl rfl rfl rfl rfl rfl rfl rfl rfl (by unfold fA fB; rw [hpa.1, hpa.2]; rfl) (fun _ => rfl) rfl rfl q2 (by omega) (fun v9 p w9 hO9 k9 hn9 => ?_)
      have q1' : Blk w9 b4 #[v] 100 := q1.kp k9 (fun e => by have := q3 _ e; omega)
      have hone : v9.oneCell' = true := by rcases hO9.own.2 with ⟨e, _⟩ | ⟨g, cap, cur, e, _⟩ <;> (rw [e]; rfl)
      refine Ops.st rfl rfl rfl rfl rfl rfl hone q1' (by simp) (fun wt hut => Ops.nil (W.endl ?_))
      have hnw : ∀ k, v9.ownBlock = some k → wE.heap.size + 1 < k := fun k hk => by
        rcases hn9 k hk with e | e
        · exact q3 k e
        · omega
      have sz9 := k9.size
      refine ⟨(k9.trans hut.kp).mono (fun k hk e => by rcases e with e | e; have := q3 k e; omega; omega), .inl ⟨rfl, ((q0.trans k9).trans hut.kp).mono (fun k hk e => by rcases e with (e | e) | e; exact e; have := q3 k e; omega; exact e), v9, by simpa using hut.blk, ?_, hnw⟩⟩
      rw [zsP_snoc]
      exact hO9.kp hut.kp (fun k e => ⟨by have := hb0E.size; omega, fun e2 => by have := hnw k e2; omega⟩)
    · obtain ⟨q0, v, q1, q2, q3⟩ := h
      have hb99 : Below w9.heap.size w9 w9 := Below.refl _ _
      have B19 : Blk w9 b1 #[.slice Ac c.length cc] 22 := B1E.kp q0 (fun e => by omega)
      (repeat (first | with_reducible refine W.seq ?_ | with_reducible refine W.region ?_ | refine z_p (kk := ?_) | refine z_d (kk := ?_)))
      have hzl := zsP_len (n := c.length) c.length 0
      have hmul : c.length * c.length ≤ 7 * 7 := Nat.mul_le_mul hn7 hn7
      have hzg : ∀ r, r < c.length * c.length → (zsP c.length c.length 0).getD r 0 = prC (r / c.length) (r % c.length) := fun r hr => zsP_get (by omega) _ _ _ (Nat.zero_le _) (by omega)
      have B49 := q1
      have hGs : Gst (fun W => Blk W b1 #[.slice Ac c.length cc] 22 ∧ Blk W b4 #[v] 100 ∧ W.heap[D]? = some (.deferred (some []))) v := fun W W' h k => ⟨h.1.kp k (fun e => by have := q3 _ e; omega), h.2.1.kp k (fun e => by have := q3 _ e; omega), at_kp h.2.2 k (fun e => by have := q3 _ e; omega)⟩
      have hsort := sortStable_c (G := fun W => Blk W b1 #[.slice Ac c.length cc] 22 ∧ Blk W b4 #[v] 100 ∧ W.heap[D]? = some (.deferred (some []))) (fc := 77) (first := []) (cap := [.pointer (some ⟨b1, 0, none⟩)]) (cv := fun y x => cmI (ceA c y) (ceA c x)) (K := kG c) ⟨q2, B19, q1, hdf⟩ hGs (by omega) rfl (by exact rfl) (fun p q hpq hq => by
        have hq' : q < c.length * c.length := by omega
        rw [hzg p (by omega), hzg q hq']
        have hm := prC_mono (n := c.length) (by omega) hn7 hpq hq'
        refine ⟨fun w' hw' hg => Greedy1_c hg.1 (hM.below hw') hC (prC_prI (by omega) hn7 hq') (prC_prI (by omega) hn7 (by omega)), ?_, ?_⟩
        · rw [cmI_neg]; unfold kG; omega
        · unfold kG; omega)
      refine Ops.call rfl rfl rfl rfl rfl hsort (fun rr w10 hR => ?_)
      obtain ⟨os, hOH, hSg, hK⟩ := hR
      have hol := hSg.len
      obtain ⟨B1x, B4x, hd10⟩ := hOH.g
      have hJ10 := hOH.oi
      have hb10 := hJ10.bel
      have hb1010 : Below w10.heap.size w10 w10 := Below.refl _ _
      (repeat (first | with_reducible refine W.seq ?_ | with_reducible refine Ops.nil ?_ | with_reducible refine W.region ?_))
      refine Ops.bs1 rfl rfl rfl rfl rfl rfl rfl rfl rfl (fun w11 rb hMb => ?_)
      have hb1011 := Mk.bel hMb
      have B1y := B1x.kp (Kp.of_below (S := fun _ => False) hb1011) (fun e => e)
      have hb1111 : Below w11.heap.size w11 w11 := Below.refl _ _
      (repeat (first | refine z_l (kk := ?_) | refine z_d (kk := ?_)))
      refine Ops.call rfl rfl rfl rfl rfl (repeat_c (lit1 hMb) (by omega) (by omega)) (fun gv w12 hG => ?_)
      have hb1112 := hG.bel
      have hJ12 := (hJ10.below hb1011).below hb1112
      have hgv := hG.ge
      have hgl : (List.replicate c.length (-1 : Int)).length = c.length := by simp
      have B412 : Blk w12 b4 #[v] 100 := B4x.kp (Kp.of_below (S := fun _ => False) (Below.via hb1011 hb1112)) (fun e => e)
      have hb1212 : Below w12.heap.size w12 w12 := Below.refl _ _
      have hG0 := hG.up (Below.via hb10 hb1011)
      have hd12 : w12.heap[D]? = some (.deferred (some [])) := at_kp (at_kp hd10 (Kp.of_below (S := fun _ => False) hb1011) (fun e => e)) (Kp.of_below (S := fun _ => False) hb1112) (fun e => e)
      have hDlt : D < w11.heap.size := by have := (Array.getElem?_eq_some_iff.1 hd10).1; have := hb1011.size; omega
      have hDw : w.heap.size ≤ D := by have := hb0E.size; omega
      have hvw : ∀ k, v.ownBlock = some k → k < w11.heap.size := fun k hk => ((hJ10.below hb1011).own.lt k hk).2
      obtain ⟨Av, mv, rfl⟩ := hJ10.sh
      have hpr : ∀ r, r < os.length → prI c (os.getD r 0) := fun r hr => by
        obtain ⟨q, _, hq, e⟩ := hSg.mem r (Nat.zero_le _) (by omega)
        rw [e, hzg q (by omega)]
        exact prC_prI (by omega) hn7 (by omega)
      obtain ⟨Ag, cg, rfl⟩ := hG.sh
      clear hG
      rw [hgl] at hgv hG0 ⊢
      (repeat (first | with_reducible refine W.seq ?_ | with_reducible refine Ops.nil ?_ | with_reducible refine W.region ?_ | refine z_p (kk := ?_) | with_reducible refine W.block ?_ | refine z_l (kk := ?_) | refine z_d (kk := ?_)))
      refine W.loop (fun m ρ w13 => ∃ (i : Nat), m = os.length - i ∧ i ≤ os.length ∧ ρ = [(7, .slice Ag c.length cg), (30, .slice Av os.length mv), (31, .int .i64 os.length), (32, .int .i64 i)] ∧ OI 3 (Value.int .i64) w w13 (.slice Ag c.length cg) (grF (os.take i) (List.replicate c.length (-1))) ∧ OJ 37 fA fB w w13 (.slice Av os.length mv) os ∧ w13.heap[D]? = some (.deferred (some [])))
        ⟨_, _, ⟨0, rfl, Nat.zero_le _, rfl, hG0, hJ10.below hb1011 |>.below hb1112, hd12⟩, (by repeat (first | exact trivial | refine And.intro rfl ?_))⟩ ?_
      clear hG0 hJ12 hJ10
      rintro m ρ w13 ⟨i, rfl, hi, rfl, hG, hJ, hd13⟩
      have hb13' := hG.bel
      (repeat (first | with_reducible refine W.seq ?_ | with_reducible refine Ops.nil ?_ | with_reducible refine W.region ?_ | refine z_p (kk := ?_)))
      (first | refine W.condD rfl (fun hc => ?_) (fun hc => ?_) | refine W.condE rfl (fun hc => ?_) (fun hc => ?_) | refine W.condN rfl (fun hc => ?_) (fun hc => ?_) | refine W.cond rfl (fun hc => ?_) (fun hc => ?_))
      · have hil : i < os.length := by omega
        obtain ⟨g, cp, ev', hcell⟩ := hJ.at_ (by omega)
        cases ev'
        obtain ⟨c1, c2⟩ := hcell i hil
        have hpz := hpr i hil
        have htk : os.take (i + 1) = os.take i ++ [os.getD i 0] := by
          rw [List.take_succ_eq_append_getElem hil]
          simp [List.getD_eq_getElem?_getD, hil]
        have hgr : grF (os.take (i + 1)) (List.replicate c.length (-1)) = grS (grF (os.take i) (List.replicate c.length (-1))) (os.getD i 0) := by rw [htk, grF_snoc]
        have hgfl : (grF (os.take i) (List.replicate c.length (-1))).length = c.length := by rw [grF_len]; simp
        generalize os.getD i 0 = z at *
        generalize grF (os.take i) (List.replicate c.length (-1)) = gl at *
        obtain ⟨hp1, hp2⟩ := hpz
        (repeat (first | with_reducible refine W.seq ?_ | with_reducible refine W.region ?_ | with_reducible refine W.skip ?_ | with_reducible refine W.block ?_))
        refine Ops.idx rfl rfl rfl rfl rfl rfl rfl (by omega) (by omega) ?_
        refine Ops.ld2 rfl rfl rfl rfl rfl rfl c1 c2 ?_
        refine Ops.alloc rfl rfl rfl rfl (fun w14 b9 hM9 => ?_)
        refine Ops.stN (vs := [fA z, fB z]) (cs := [.int .i64 0, .int .i64 0]) rfl rfl rfl rfl rfl rfl (by intro v hv; simp at hv; rcases hv with rfl | rfl <;> rfl) rfl hM9.at_ (fun w15 hu9 => ?_)
        have B9 : Blk w15 b9 #[.int .i64 (z / 7), .int .i64 (z % 7)] 37 := hu9.blk
        have e9 := hM9.r_eq
        have hb1315 : Below w13.heap.size w13 w15 := Below.put (Mk.bel hM9) hu9.kp (fun k e => by omega)
        have hG15 := hG.below hb1315
        have hJ15 := hJ.below hb1315
        have hsl15 : SlI w15 (.slice Ag c.length cg) gl := hG15.sl
        have hb1515 : Below w15.heap.size w15 w15 := Below.refl _ _
        have hd15 : w15.heap[D]? = some (.deferred (some [])) := at_kp hd13 (Kp.of_below (S := fun _ => False) hb1315) (fun e => e)
        (repeat (first | with_reducible refine W.seq ?_ | with_reducible refine Ops.nil ?_ | with_reducible refine W.region ?_ | refine z_p (kk := ?_)))
        refine Ops.evG rfl rfl rfl (EV.idxP rfl rfl rfl rfl rfl (by decide) (by decide)) ?_
        (repeat (first | refine z_p (kk := ?_) | refine z_d (kk := ?_) | refine z_K (kk := fun _ => ?_)))
        by_cases hx : gl.getD (z / 7).toNat 0 < 0
        · (repeat (first | refine z_p (kk := ?_) | refine z_y (kk := ?_) | refine z_h (kk := ?_)))
          refine Ops.evG rfl rfl rfl (EV.idxP rfl rfl rfl rfl rfl (by decide) (by decide)) ?_
          (repeat (first | refine z_y (kk := ?_) | refine z_d (kk := ?_)))
          refine Ops.callS rfl rfl rfl rfl rfl (contains_c hsl15) ?_
          by_cases hz : z % 7 ∈ gl
          · rw [decide_eq_true hz]
            have hgs : grS gl z = gl := by unfold grS; rw [if_neg (fun h => h.2 hz)]
            rw [hgs] at hgr
            (repeat (first | with_reducible refine Ops.nil ?_ | refine z_p (kk := ?_) | refine z_y (kk := ?_)))
            refine W.condF rfl (by first | rfl | assumption | (simp only [bnf] <;> omega) | (simp only [*, bnf]; done) | fail) ?_
            (repeat (first | with_reducible refine Ops.nil ?_ | with_reducible refine W.region ?_ | refine z_p (kk := ?_) | refine z_a (kk := ?_) | with_reducible refine W.skip ?_ | with_reducible refine W.endb ?_))
            exact W.endl ⟨_, _, ⟨⟨i + 1, rfl, by omega, rfl, by rw [hgr]; exact hG15, hJ15, hd15⟩, by omega⟩, (by repeat (first | exact trivial | refine And.intro rfl ?_))⟩
          · rw [decide_eq_false hz]
            have hgs : grS gl z = gl.set (z / 7).toNat (z % 7) := by unfold grS; rw [if_pos ⟨hx, hz⟩]
            rw [hgs] at hgr
            (repeat (first | with_reducible refine Ops.nil ?_ | refine z_p (kk := ?_) | refine z_y (kk := ?_)))
            refine W.condT rfl (by first | rfl | assumption | (simp only [bnf] <;> omega) | (simp only [*, bnf]; done) | fail) ?_
            (repeat (first | with_reducible refine W.region ?_ | refine z_p (kk := ?_)))
            refine Ops.evG rfl rfl rfl (EV.idxP rfl rfl rfl rfl rfl (by decide) (by decide)) ?_
            (repeat (first | refine z_d (kk := ?_)))
            refine Ops.evG rfl rfl rfl (EV.idxP rfl rfl rfl rfl rfl (by decide) (by decide)) ?_
            (repeat (first | refine z_d (kk := ?_)))
            refine Ops.wrOi (enc := Value.int .i64) (u := z % 7) rfl rfl rfl rfl rfl rfl rfl rfl rfl rfl rfl rfl (by simp) rfl hG15 (by omega) (by omega) (fun w16 p hO6 k6 hs6 => ?_)
            have hJ16 := hJ15.kp k6 (fun k e => ⟨hG15.ge k e, fun e2 => by have := hvw k e2; have := hgv k e; omega⟩)
            have hd16 := at_kp hd15 k6 (fun e => by have := hgv _ e; omega)
            (repeat (first | with_reducible refine Ops.nil ?_ | with_reducible refine W.region ?_ | refine z_p (kk := ?_) | refine z_a (kk := ?_) | with_reducible refine W.endb ?_))
            exact W.endl ⟨_, _, ⟨⟨i + 1, rfl, by omega, rfl, by rw [hgr]; exact hO6, hJ16, hd16⟩, by omega⟩, (by repeat (first | exact trivial | refine And.intro rfl ?_))⟩
        · have hgs : grS gl z = gl := by unfold grS; rw [if_neg (fun h => hx h.1)]
          rw [hgs] at hgr
          (repeat (first | with_reducible refine Ops.nil ?_ | refine z_p (kk := ?_) | refine z_n (kk := ?_) | refine z_g (kk := ?_)))
          refine W.condF rfl (by first | rfl | assumption | (simp only [bnf] <;> omega) | (simp only [*, bnf]; done) | fail) ?_
          (repeat (first | with_reducible refine Ops.nil ?_ | with_reducible refine W.region ?_ | refine z_p (kk := ?_) | refine z_a (kk := ?_) | with_reducible refine W.skip ?_ | with_reducible refine W.endb ?_))
          exact W.endl ⟨_, _, ⟨⟨i + 1, rfl, by omega, rfl, by rw [hgr]; exact hG15, hJ15, hd15⟩, by omega⟩, (by repeat (first | exact trivial | refine And.intro rfl ?_))⟩
      · have hil : i = os.length := by omega
        subst hil
        rw [List.take_length] at hG
        (repeat (first | with_reducible refine W.seq ?_ | with_reducible refine Ops.nil ?_ | with_reducible refine W.region ?_ | refine z_p (kk := ?_) | refine W.exit rfl ?_))
        have hkD := kp_putObj (w := w13) (r := D) (.deferred none)
        refine W.ret ⟨rfl, hd13, _, fun a hr => run_results hr rfl, Below.put hG.bel hkD (fun k e => by omega), fun h => by simp at h, fun _ => ⟨_, os, rfl, hSg.perm, by rw [hol]; exact hK, hG.kp hkD (fun k e => ⟨by omega, fun e2 => by have := hgv k e2; omega⟩)⟩⟩
end Go.Proofs.Ytehjmakiljhjdaa
/- Plain: what is taken greedily is an assignment. -/
namespace Go.Proofs.Ytehjmakiljhjdaa
open Go Go.RowKit Go.Proofs.Ytehjmakiljhjdaa.VW
/-- What stands between two pairs. -/
structure GrI (n : Nat) (g : List Int) : Prop where
  len : g.length = n
  rng : ∀ i, i < n → g.getD i 0 = -1 ∨ (0 ≤ g.getD i 0 ∧ g.getD i 0 < n)
  ne : ∀ i k, i < n → k < n → i ≠ k → 0 ≤ g.getD i 0 → g.getD i 0 ≠ g.getD k 0
theorem GrI.start (n : Nat) : GrI n (List.replicate n (-1)) := by
  have h : ∀ i, i < n → (List.replicate n (-1 : Int)).getD i 0 = -1 := fun i hi => by simp [List.getD_eq_getElem?_getD, hi]
  exact ⟨by simp, fun i hi => .inl (h i hi), fun i k hi hk hne h0 => by rw [h i hi] at h0; omega⟩
theorem mem_getD {g : List Int} {y : Int} : y ∈ g ↔ ∃ i, i < g.length ∧ g.getD i 0 = y := by
  constructor
  · intro h
    obtain ⟨i, hi, rfl⟩ := List.getElem_of_mem h
    exact ⟨i, hi, by simp [List.getD_eq_getElem?_getD, hi]⟩
  · rintro ⟨i, hi, rfl⟩
    simp [List.getD_eq_getElem?_getD, hi]
theorem getD_setE {g : List Int} {i k : Nat} {y : Int} (hi : i < g.length) : (g.set i y).getD k 0 = if k = i then y else g.getD k 0 := by
  simp only [List.getD_eq_getElem?_getD]
  by_cases e : k = i
  · subst e; simp [hi]
  · rw [List.getElem?_set_ne (by omega), if_neg e]
theorem GrI.step {n : Nat} {g : List Int} {z : Int} (h : GrI n g) (h1 : 0 ≤ z / 7 ∧ z / 7 < n) (h2 : 0 ≤ z % 7 ∧ z % 7 < n) : GrI n (grS g z) ∧ (∀ i, i < n → 0 ≤ g.getD i 0 → (grS g z).getD i 0 = g.getD i 0) := by
  have hl := h.len
  unfold grS
  split
  · rename_i hc
    have hx : (z / 7).toNat < g.length := by omega
    refine ⟨⟨by simp [hl], fun i hi => ?_, fun i k hi hk hne h0 => ?_⟩, fun i hi h0 => ?_⟩
    · rw [getD_setE hx]
      split
      · right; omega
      · exact h.rng i hi
    · rw [getD_setE hx] at h0 ⊢
      rw [getD_setE hx]
      have hnm : ∀ k, k < n → g.getD k 0 ≠ z % 7 := fun k hk e => hc.2 (mem_getD.2 ⟨k, by omega, e⟩)
      by_cases e1 : i = (z / 7).toNat
      · rw [if_pos e1, if_neg (by omega)]
        exact fun e => hnm k hk e.symm
      · rw [if_neg e1] at h0 ⊢
        by_cases e2 : k = (z / 7).toNat
        · rw [if_pos e2]; exact hnm i hi
        · rw [if_neg e2]; exact h.ne i k hi hk hne h0
    · rw [getD_setE hx]
      split
      · rename_i e; subst e; omega
      · rfl
  · exact ⟨h, fun _ _ _ => rfl⟩
theorem GrI.fold {n : Nat} : ∀ (os : List Int) (g : List Int), GrI n g → (∀ z, z ∈ os → (0 ≤ z / 7 ∧ z / 7 < n) ∧ 0 ≤ z % 7 ∧ z % 7 < n) → GrI n (grF os g) ∧ ∀ i, i < n → 0 ≤ g.getD i 0 → (grF os g).getD i 0 = g.getD i 0
  | [], g, h, _ => ⟨h, fun _ _ _ => rfl⟩
  | z :: r, g, h, hz => by
    obtain ⟨h1, h2⟩ := hz z (List.mem_cons_self ..)
    obtain ⟨s1, s2⟩ := h.step h1 h2
    obtain ⟨f1, f2⟩ := GrI.fold r (grS g z) s1 (fun x hx => hz x (List.mem_cons_of_mem _ hx))
    refine ⟨f1, fun i hi h0 => ?_⟩
    have := s2 i hi h0
    exact (f2 i hi (by omega)).trans this
/-- Behind a pair: its button has a hole, or its hole is taken. -/
theorem gr_seen {n : Nat} {z : Int} (h1 : 0 ≤ z / 7 ∧ z / 7 < n) (h2 : 0 ≤ z % 7 ∧ z % 7 < n) : ∀ (os : List Int) (g : List Int), GrI n g → (∀ z, z ∈ os → (0 ≤ z / 7 ∧ z / 7 < n) ∧ 0 ≤ z % 7 ∧ z % 7 < n) → z ∈ os → 0 ≤ (grF os g).getD (z / 7).toNat 0 ∨ z % 7 ∈ grF os g
  | [], g, _, _, hm => by simp at hm
  | a :: r, g, h, hz, hm => by
    obtain ⟨a1, a2⟩ := hz a (List.mem_cons_self ..)
    have hr := fun x hx => hz x (List.mem_cons_of_mem _ hx)
    obtain ⟨s1, s2⟩ := h.step a1 a2
    rcases List.mem_cons.1 hm with e | e
    · subst e
      obtain ⟨f1, f2⟩ := GrI.fold r (grS g z) s1 hr
      have hkeep : (0 ≤ (grS g z).getD (z / 7).toNat 0 ∨ z % 7 ∈ grS g z) := by
        by_cases hc : g.getD (z / 7).toNat 0 < 0 ∧ ¬ (z % 7 ∈ g)
        · left
          unfold grS
          rw [if_pos hc, getD_setE (by have := h.len; omega), if_pos rfl]
          exact h2.1
        · unfold grS
          rw [if_neg hc]
          by_cases hx : g.getD (z / 7).toNat 0 < 0
          · right
            exact Classical.byContradiction fun hn => hc ⟨hx, hn⟩
          · left; omega
      show 0 ≤ (grF r (grS g z)).getD _ 0 ∨ _ ∈ grF r (grS g z)
      rcases hkeep with k | k
      · left
        rw [f2 _ (by omega) k]; exact k
      · right
        obtain ⟨i, hi, e⟩ := mem_getD.1 k
        have hi' : i < n := by rw [s1.len] at hi; exact hi
        exact mem_getD.2 ⟨i, by rw [f1.len]; exact hi', by rw [f2 i hi' (by omega)]; exact e⟩
    · exact gr_seen h1 h2 r (grS g a) s1 hr e
end Go.Proofs.Ytehjmakiljhjdaa
/- Plain: slacks, payments, fixed holes: both ways. -/
namespace Go.Proofs.Ytehjmakiljhjdaa
open Go Go.RowKit Go.Proofs.Ytehjmakiljhjdaa.VW
/-- A list by its function. -/
def fl (n : Nat) (f : Nat → Int) : List Int := (List.range n).map f
theorem fl_len (n : Nat) (f : Nat → Int) : (fl n f).length = n := by simp [fl]
theorem fl_get {n : Nat} {f : Nat → Int} {i : Nat} (h : i < n) : (fl n f).getD i 0 = f i := by simp [fl, List.getD_eq_getElem?_getD, h]
theorem fl_set {n : Nat} {f : Nat → Int} {j : Nat} {x : Int} : (fl n f).set j x = fl n (fun q => if q = j then x else f q) := by
  refine List.ext_getElem (by simp [fl]) fun t h1 h2 => ?_
  rw [List.getElem_set]
  simp only [fl, List.getElem_map, List.getElem_range]
  by_cases e : j = t
  · subst e; simp
  · simp [e, show ¬ t = j from fun e2 => e e2.symm]
theorem fl_congr {n : Nat} {f g : Nat → Int} (h : ∀ i, i < n → f i = g i) : fl n f = fl n g := List.map_congr_left fun i hi => h i (List.mem_range.1 hi)
theorem fl_zero (n : Nat) : List.replicate n 0 = fl n fun _ => 0 := List.ext_getElem (by simp [fl]) fun t h1 h2 => by simp [fl]
theorem fl_self (l : List Int) : fl l.length (fun i => l.getD i 0) = l := list_ext (fl_len _ _) fun i hi => by rw [fl_len] at hi; exact fl_get hi
/-- The q-th of all assignments. -/
abbrev LL (c : List (List Int)) (q : Nat) : List Int := (allL c.length).getD q []
def slm (c : List (List Int)) (i j : Nat) : Nat → Int
  | 0 => 14000
  | k + 1 => if (LL c k).getD i 0 = (j : Int) then min (slm c i j k) (tt c k - minT c) else slm c i j k
theorem slm_le {c : List (List Int)} {i j : Nat} : ∀ m q, q < m → (LL c q).getD i 0 = (j : Int) → slm c i j m ≤ tt c q - minT c
  | 0, q, h, _ => by omega
  | m + 1, q, h, he => by
    simp only [slm]
    by_cases e : q = m
    · subst e; rw [if_pos he]; omega
    · have := slm_le m q (by omega) he
      split <;> omega
theorem slm_ge {c : List (List Int)} {i j : Nat} {x : Int} (hx : x ≤ 14000) : ∀ m, (∀ q, q < m → (LL c q).getD i 0 = (j : Int) → x ≤ tt c q - minT c) → x ≤ slm c i j m
  | 0, _ => hx
  | m + 1, h => by
    have ih := slm_ge hx m (fun q hq he => h q (by omega) he)
    simp only [slm]
    split
    · rename_i he
      have := h m (by omega) he
      omega
    · exact ih
theorem LL_asg {c : List (List Int)} {q : Nat} (h : q < (allL c.length).length) : Asg (LL c q) c.length := mem_allL.1 (getD_memR h)
theorem totB {c : List (List Int)} (hC : Cst c) {a : List Int} (h : Asg a c.length) : -7000 ≤ totP c a c.length ∧ totP c a c.length ≤ 7000 := by
  have := totP_bd hC (fun i hi => (h.2 i hi).1) (by rw [h.1]; exact Nat.le_refl _) c.length (by rw [h.1]; exact Nat.le_refl _)
  have := hC.n7
  omega
theorem minB {c : List (List Int)} (hC : Cst c) : -7000 ≤ minT c ∧ minT c ≤ 7000 := by
  obtain ⟨a, h, e⟩ := min_att (c := c)
  rw [← e]
  exact totB hC h
theorem slm_eq {c : List (List Int)} (hC : Cst c) {i j : Nat} (hi : i < c.length) (hj : j < c.length) : slm c i j (allL c.length).length = slackE c i j := by
  have hE : slackE c i j = eC c i j + restS c (gI i) c.length (2 ^ j) - minT c := by
    unfold slackE
    rw [first_tot]
    rfl
  obtain ⟨a, hA, haj, hat⟩ := sl_att (c := c) hi hj
  obtain ⟨p, hp, hpe⟩ := idx_ex hA
  refine Int.le_antisymm ?_ ?_
  · have := slm_le (allL c.length).length p hp (by show ((allL c.length).getD p []).getD i 0 = _; rw [hpe, (hA.funA hi).1, haj])
    have e : tt c p = totP c a c.length := by unfold tt; rw [hpe]
    omega
  · have hb := totB hC hA
    have hm := minB hC
    refine slm_ge (by omega) _ (fun q hq he => ?_)
    have hq2 := LL_asg hq
    have := sl_le hq2 hi (j := j) (by have := (hq2.funA hi).1; omega)
    have e : tt c q = totP c (LL c q) c.length := rfl
    omega
theorem slRow_fl {c : List (List Int)} {i : Nat} : ∀ m, slRow c i m = fl m (slackE c i)
  | 0 => rfl
  | m + 1 => by simp only [slRow, slRow_fl m]; simp [fl, List.range_succ]
def plm (c : List (List Int)) (i : Nat) : Nat → Int
  | 0 => tt c 0 - eC c i (funA (LL c 0) i)
  | k + 1 => min (plm c i k) (tt c k - eC c i (funA (LL c k) i))
theorem plm_le {c : List (List Int)} {i : Nat} : ∀ m q, q < m → plm c i m ≤ tt c q - eC c i (funA (LL c q) i)
  | 0, q, h => by omega
  | m + 1, q, h => by
    simp only [plm]
    by_cases e : q = m
    · subst e; omega
    · have := plm_le (c := c) (i := i) m q (by omega)
      omega
theorem plm_ge {c : List (List Int)} {i : Nat} {x : Int} (h0 : x ≤ tt c 0 - eC c i (funA (LL c 0) i)) : ∀ m, (∀ q, q < m → x ≤ tt c q - eC c i (funA (LL c q) i)) → x ≤ plm c i m
  | 0, _ => h0
  | m + 1, h => by
    have ih := plm_ge h0 m (fun q hq => h q (by omega))
    have := h m (by omega)
    simp only [plm]
    omega
theorem plm_eq {c : List (List Int)} {i : Nat} (hi : i < c.length) : plm c i (allL c.length).length = restS c (gI i) c.length 0 := by
  obtain ⟨a, hA, hat⟩ := pay_att (c := c) hi
  obtain ⟨p, hp, hpe⟩ := idx_ex hA
  have hle : ∀ q, q < (allL c.length).length → restS c (gI i) c.length 0 ≤ tt c q - eC c i (funA (LL c q) i) := fun q hq => by
    have := pay_le (LL_asg hq) hi
    have e : tt c q = totP c (LL c q) c.length := rfl
    omega
  refine Int.le_antisymm ?_ (plm_ge (hle 0 allL_pos) _ hle)
  have := plm_le (c := c) (i := i) (allL c.length).length p hp
  have e : tt c p = totP c a c.length := by unfold tt; rw [hpe]
  have e2 : LL c p = a := hpe
  rw [e2] at this
  omega
theorem paysS_fl {c : List (List Int)} {l : List Int} : ∀ m, paysS c l m = fl m fun i => totP c l l.length - eC c i (funA l i) - restS c (gI i) c.length 0
  | 0 => rfl
  | m + 1 => by
    simp only [paysS, paysS_fl m]
    simp only [fl, List.range_succ, List.map_append, List.map_cons, List.map_nil]
    rfl
/-- The last one of the first m that is 0. -/
def fixA (r : List Int) : Nat → Int
  | 0 => -1
  | m + 1 => if r.getD m 0 = 0 then (m : Int) else fixA r m
def zer (r : List Int) (q : Nat) : Bool := decide (r.getD q 0 = 0)
def fixV (r : List Int) (n : Nat) : Int := if 1 < ct (zer r) n then -1 else fixA r n
theorem fixA_none {r : List Int} : ∀ m, (∀ q, q < m → r.getD q 0 ≠ 0) → fixA r m = -1
  | 0, _ => rfl
  | m + 1, h => by simp only [fixA]; rw [if_neg (h m (by omega))]; exact fixA_none m (fun q hq => h q (by omega))
theorem fixA_one {r : List Int} {h : Nat} (hr : r.getD h 0 = 0) : ∀ m, h < m → (∀ q, h < q → q < m → r.getD q 0 ≠ 0) → fixA r m = h
  | 0, hm, _ => by omega
  | m + 1, hm, hq => by
    simp only [fixA]
    by_cases e : h = m
    · subst e; rw [if_pos hr]
    · rw [if_neg (hq m (by omega) (by omega))]
      exact fixA_one hr m (by omega) (fun q h1 h2 => hq q h1 (by omega))
theorem fixV_none {r : List Int} {n : Nat} (h : ∀ q, q < n → r.getD q 0 ≠ 0) : fixV r n = -1 := by
  unfold fixV
  rw [fixA_none n h]
  split <;> rfl
theorem fixV_one {r : List Int} {n k : Nat} (hk : k < n) (hr : r.getD k 0 = 0) (h1 : ∀ q, q < k → r.getD q 0 ≠ 0) (h2 : ∀ q, k < q → q < n → r.getD q 0 ≠ 0) : fixV r n = k := by
  unfold fixV
  rw [if_neg, fixA_one hr n hk h2]
  have : ct (zer r) n ≤ ct (fun q => decide (q = k)) n := ct_sub n (fun i hi hz => by
    unfold zer at hz
    simp only [decide_eq_true_eq] at hz ⊢
    rcases Nat.lt_trichotomy i k with h | h | h
    · exact absurd hz (h1 i h)
    · exact h
    · exact absurd hz (h2 i h hi))
  have hone : ∀ m, ct (fun q => decide (q = k)) m ≤ 1 := fun m => by
    induction m with
    | zero => simp [ct]
    | succ m ih =>
      simp only [ct]
      by_cases e : m = k
      · have : ct (fun q => decide (q = k)) m = 0 := ct_none m (fun i hi => by simp; omega)
        rw [this]; split <;> omega
      · simp [e]; exact ih
  have := hone n
  omega
theorem fixV_many {r : List Int} {n k q : Nat} (hk : k < q) (hq : q < n) (h1 : r.getD k 0 = 0) (h2 : r.getD q 0 = 0) : fixV r n = -1 := by
  unfold fixV
  rw [if_pos]
  have a1 : 0 < ct (zer r) q := by
    rcases Nat.eq_zero_or_pos (ct (zer r) q) with h | h
    · have := ct_zero q h k hk; unfold zer at this; rw [decide_eq_true h1] at this; cases this
    · exact h
  have hz : zer r q = true := decide_eq_true h2
  have a2 : ct (zer r) (q + 1) = ct (zer r) q + 1 := by simp [ct, hz]
  have a3 := ct_mono (p := zer r) n (show q + 1 ≤ n by omega)
  omega
end Go.Proofs.Ytehjmakiljhjdaa
/- Plain: the narrowest assignment. -/
namespace Go.Proofs.Ytehjmakiljhjdaa
open Go Go.RowKit Go.Proofs.Ytehjmakiljhjdaa.VW
theorem wid_le {c : List (List Int)} {a : List Int} {y : Int} : ∀ n, 0 < n → (widS c a n ≤ y ↔ ∀ i, i < n → costA c a i ≤ y)
  | 0, h => by omega
  | 1, _ => by
    simp only [widS]
    have : costA c a 0 = (c.getD 0 []).getD (a.getD 0 0).toNat 0 := rfl
    constructor
    · intro h i hi
      obtain rfl : i = 0 := by omega
      omega
    · intro h; have := h 0 (by omega); omega
  | n + 2, _ => by
    have ih := wid_le (c := c) (a := a) (y := y) (n + 1) (by omega)
    rw [widS]
    have : costA c a (n + 1) = (c.getD (n + 1) []).getD (a.getD (n + 1) 0).toNat 0 := rfl
    constructor
    · intro h i hi
      by_cases e : i = n + 1
      · subst e; omega
      · exact ih.1 (by omega) i (by omega)
    · intro h
      have h1 := ih.2 (fun i hi => h i (by omega))
      have h2 := h (n + 1) (by omega)
      omega
theorem wid_ex {c : List (List Int)} {a : List Int} : ∀ n, 0 < n → ∃ i, i < n ∧ costA c a i = widS c a n
  | 0, h => by omega
  | 1, _ => ⟨0, by omega, by simp only [widS]; have : costA c a 0 = (c.getD 0 []).getD (a.getD 0 0).toNat 0 := rfl; omega⟩
  | n + 2, _ => by
    obtain ⟨i, h1, h2⟩ := wid_ex (c := c) (a := a) (n + 1) (by omega)
    rw [widS]
    have : costA c a (n + 1) = (c.getD (n + 1) []).getD (a.getD (n + 1) 0).toNat 0 := rfl
    rcases Int.le_total (widS c a (n + 1)) (costA c a (n + 1)) with h | h
    · exact ⟨n + 1, by omega, by omega⟩
    · exact ⟨i, by omega, by omega⟩
theorem okA_iff {c : List (List Int)} {a : List Int} {x : Int} (hn : 0 < c.length) (h : Asg a c.length) : OkA c x a ↔ widS c a c.length ≤ x := by
  rw [wid_le _ hn]
  exact ⟨fun k => k.2, fun k => ⟨h, k⟩⟩
theorem fits_lex {c : List (List Int)} {x : Int} {a : List Int} : ∀ k l, l.length + k = c.length → Pre c x l → fitsS c x k l = some a → ∀ b, OkA c x b → b.take l.length = l → a = b ∨ lexB a b = true
  | 0, l, hl, hp, h, b, hb, ht => by
    simp only [fitsS, Option.some.injEq] at h
    subst h
    left
    rw [← ht, List.take_of_length_le (by have := hb.1.1; omega)]
  | k + 1, l, hl, hp, h, b, hb, ht => by
    have hall := fits_sound (k + 1) l hl hp h
    simp only [fitsS] at h
    obtain ⟨q, q1, q2, q3, q4⟩ := tryF_some _ _ h
    have hbl := hb.1.1
    have hbi := (hb.1.2 l.length (by omega)).1
    have hnm := Asg.not_mem hb.1 (i := l.length) (by omega)
    rw [ht] at hnm
    have hbj : b.getD l.length 0 = (funA b l.length : Int) := (hb.1.funA (by omega)).1
    have hjn := (hb.1.funA (i := l.length) (by omega)).2
    have hcost := hb.2 l.length (by omega)
    have htk : b.take (l.length + 1) = l ++ [(funA b l.length : Int)] := by rw [take_succI (by omega), ht, hbj]
    have hok : (c.getD l.length []).getD (funA b l.length) 0 ≤ x ∧ ¬ ((funA b l.length : Nat) : Int) ∈ l := ⟨hcost, by rw [← hbj]; exact hnm⟩
    split at q3
    · rename_i hq
      have hlen : (l ++ [(q : Int)]).length = l.length + 1 := by simp
      have hpre := hp.snoc (j := q) (by omega) hq.2 hq.1
      rcases Nat.lt_trichotomy (funA b l.length) q with e | e | e
      · exfalso
        have := q4 _ (Nat.zero_le _) e
        rw [if_pos hok] at this
        have hl2 : (l ++ [((funA b l.length : Nat) : Int)]).length = l.length + 1 := by simp
        exact fits_none k _ (by rw [hl2]; omega) this b hb (by rw [hl2]; exact htk)
      · rw [← e] at q3 hpre hlen
        exact fits_lex k _ (by rw [hlen]; omega) hpre q3 b hb (by rw [hlen]; exact htk)
      · right
        have h2 := (fits_sound k _ (by rw [hlen]; omega) hpre q3).2
        rw [hlen] at h2
        rw [← List.take_append_drop (l.length + 1) a, ← List.take_append_drop (l.length + 1) b, h2, htk, List.append_assoc, List.append_assoc, List.singleton_append, List.singleton_append]
        exact lexB_app (by omega) _ _
    · cases q3
theorem Pre.nil {c : List (List Int)} {x : Int} : Pre c x [] := fun i hi => by simp at hi
theorem NarS.ok {c : List (List Int)} {a b : List Int} {x : Int} (h : NarS c a x b) : OkA c x a := fits_some0 h.fit
theorem NarS.min {c : List (List Int)} {a b : List Int} {x : Int} (hC : Cst c) (h : NarS c a x b) {d : List Int} (hd : Asg d c.length) : x ≤ widS c d c.length := by
  have hn := hC.n1
  obtain ⟨i, h1, h2⟩ := wid_ex (c := c) (a := d) c.length (by omega)
  apply Classical.byContradiction
  intro hlt
  have hm := cost_mem hC hd h1
  rw [h2] at hm
  exact fits_none0 (h.least _ hm (by omega)) d ((okA_iff (by omega) hd).2 (Int.le_refl _))
theorem NarS.wid {c : List (List Int)} {a b : List Int} {x : Int} (hC : Cst c) (h : NarS c a x b) : widS c a c.length = x :=
  Int.le_antisymm ((okA_iff (by have := hC.n1; omega) h.ok.1).1 h.ok) (h.min hC h.ok.1)
theorem nar_spec (c : List (List Int)) : ∀ i, i ≤ (allL c.length).length → (∀ q, q < i → widS c ((allL c.length).getD (narI c i) []) c.length ≤ widS c ((allL c.length).getD q []) c.length) ∧ (∀ q, q < narI c i → widS c ((allL c.length).getD (narI c i) []) c.length < widS c ((allL c.length).getD q []) c.length) ∧ (0 < i → narI c i < i)
  | 0, _ => ⟨fun q hq => by omega, fun q hq => by simp [narI] at hq, fun h => by omega⟩
  | i + 1, hi => by
    obtain ⟨h1, h2, h3⟩ := nar_spec c i (by omega)
    simp only [narI]
    split
    · rename_i hlt
      refine ⟨fun q hq => ?_, fun q hq => ?_, fun _ => by omega⟩
      · by_cases e : q = i
        · subst e; omega
        · have := h1 q (by omega); omega
      · have := h1 q hq; omega
    · rename_i hlt
      refine ⟨fun q hq => ?_, h2, fun _ => by
        by_cases e : i = 0
        · subst e; simp [narI]
        · have := h3 (by omega); omega⟩
      by_cases e : q = i
      · subst e; omega
      · exact h1 q (by omega)
theorem NarS.eq {c : List (List Int)} {a b : List Int} {x : Int} (hC : Cst c) (h : NarS c a x b) : a = (allL c.length).getD (narI c (allL c.length).length) [] := by
  have hn := hC.n1
  obtain ⟨s1, s2, s3⟩ := nar_spec c _ (Nat.le_refl _)
  have hnl := narI_le c _ (Nat.le_refl _)
  generalize narI c (allL c.length).length = p at *
  have hAp := all_asg hnl
  obtain ⟨q, hq, hqa⟩ := mem_getDR (mem_allL.2 h.ok.1)
  have hwq := s1 q hq
  rw [hqa, h.wid hC] at hwq
  have hwp := h.min hC hAp
  have hokp : OkA c x ((allL c.length).getD p []) := (okA_iff (by omega) hAp).2 hwq
  rcases fits_lex c.length [] (by simp) Pre.nil h.fit _ hokp (by simp) with e | e
  · exact e
  · exfalso
    rcases Nat.lt_trichotomy q p with l | l | l
    · have := s2 q l
      rw [hqa, h.wid hC] at this
      omega
    · subst l; rw [← hqa, lexB_irr] at e; cases e
    · have h1 := allL_lt l hq
      rw [hqa] at h1
      have := lexB_trans _ _ _ e h1
      rw [lexB_irr] at this
      cases this
end Go.Proofs.Ytehjmakiljhjdaa
/- Plain: buttons and holes exchanged. -/
namespace Go.Proofs.Ytehjmakiljhjdaa
open Go Go.RowKit Go.Proofs.Ytehjmakiljhjdaa.VW
def trC (c : List (List Int)) : List (List Int) := (List.range c.length).map fun q => fl c.length fun x => eC c x q
theorem trC_len (c : List (List Int)) : (trC c).length = c.length := by simp [trC]
theorem trC_row {c : List (List Int)} {q : Nat} (h : q < c.length) : (trC c).getD q [] = fl c.length fun x => eC c x q := by simp [trC, List.getD_eq_getElem?_getD, h]
theorem trC_ent {c : List (List Int)} {q x : Nat} (hq : q < c.length) (hx : x < c.length) : eC (trC c) q x = eC c x q := by
  unfold eC
  rw [trC_row hq, fl_get hx]
  rfl
theorem trC_cst {c : List (List Int)} (hC : Cst c) : Cst (trC c) := by
  refine ⟨by rw [trC_len]; exact hC.n1, by rw [trC_len]; exact hC.n7, fun i hi => ?_, fun i j hi hj => ?_⟩
  · rw [trC_len] at hi ⊢
    rw [trC_row hi, fl_len]
  · rw [trC_len] at hi hj
    have := trC_ent hi hj
    unfold eC at this
    rw [this]
    exact hC.bd j i hj hi
theorem row_fl {c : List (List Int)} (hC : Cst c) {q : Nat} (hq : q < c.length) : c.getD q [] = fl c.length (eC c q) := by
  have h := fl_self (c.getD q [])
  rw [hC.len q hq] at h
  exact h.symm
theorem trC_trC {c : List (List Int)} (hC : Cst c) : trC (trC c) = c := by
  refine List.ext_getElem (by rw [trC_len, trC_len]) fun q h1 h2 => ?_
  have hq : q < (trC c).length := by rw [trC_len] at h1; exact h1
  have h3 := trC_row (c := trC c) hq
  have h4 := row_fl hC h2
  have e1 : (trC (trC c)).getD q [] = (trC (trC c))[q] := by simp [List.getD_eq_getElem?_getD, h1]
  have e2 : c.getD q [] = c[q] := by simp [List.getD_eq_getElem?_getD, h2]
  rw [← e1, ← e2, h3, h4, trC_len]
  exact fl_congr fun x hx => trC_ent hx h2
/-- What undoes an assignment. -/
def Inv (a b : List Int) (n : Nat) : Prop := b.length = n ∧ ∀ q, q < n → b.getD (funA a q) 0 = (q : Int)
theorem asg_sur {a : List Int} {n : Nat} (h : Asg a n) {x : Nat} (hx : x < n) : ∃ q, q < n ∧ funA a q = x := by
  have := cover (n := n) (l := (List.range n).map (funA a)) (map_inj_nodup (asg_inj h)) (fun y hy => by
    obtain ⟨i, hi, rfl⟩ := List.mem_map.1 hy
    exact (h.funA (List.mem_range.1 hi)).2) (by simp) hx
  obtain ⟨q, hq, e⟩ := List.mem_map.1 this
  exact ⟨q, List.mem_range.1 hq, e⟩
theorem Inv.asg {a b : List Int} {n : Nat} (ha : Asg a n) (h : Inv a b n) : Asg b n := by
  have key : ∀ x, x < n → ∃ q : Nat, q < n ∧ funA a q = x ∧ b.getD x 0 = (q : Int) := fun x hx => by
    obtain ⟨q, hq, e⟩ := asg_sur ha hx
    exact ⟨q, hq, e, by rw [← e]; exact h.2 q hq⟩
  refine ⟨h.1, fun i hi => ?_⟩
  rw [h.1] at hi
  obtain ⟨q, hq, e1, e2⟩ := key i hi
  refine ⟨by omega, fun k hk e => ?_⟩
  obtain ⟨p, hp, e3, e4⟩ := key k (by omega)
  rw [e2, e4] at e
  have : p = q := by omega
  subst this
  omega
theorem Inv.sym {a b : List Int} {n : Nat} (ha : Asg a n) (h : Inv a b n) : Inv b a n := by
  refine ⟨ha.1, fun x hx => ?_⟩
  obtain ⟨q, hq, e⟩ := asg_sur ha hx
  have h2 := h.2 q hq
  rw [e] at h2
  have : funA b x = q := by unfold funA; omega
  rw [this, (ha.funA hq).1, e]
theorem inv_ex {a : List Int} {n : Nat} (ha : Asg a n) : ∃ b, Inv a b n := by
  have hx : ∀ x : Nat, ∃ q : Nat, x < n → q < n ∧ funA a q = x := fun x => by
    by_cases h : x < n
    · obtain ⟨q, hq, e⟩ := asg_sur ha h
      exact ⟨q, fun _ => ⟨hq, e⟩⟩
    · exact ⟨0, fun e => absurd e h⟩
  obtain ⟨f, hf⟩ := Classical.axiomOfChoice hx
  refine ⟨lstF n f, lstF_len _ _, fun q hq => ?_⟩
  have hq2 := (ha.funA hq).2
  rw [lstF_get hq2]
  have := (hf _ hq2)
  have := asg_inj ha _ _ this.1 hq this.2
  omega
theorem inv_uniq {a a' b : List Int} {n : Nat} (ha : Asg a n) (ha' : Asg a' n) (h : Inv a b n) (h' : Inv a' b n) : a = a' := by
  have s := h.sym ha
  have s' := h'.sym ha'
  have hb := h.asg ha
  refine list_ext (by rw [ha.1, ha'.1]) fun i hi => ?_
  rw [ha.1] at hi
  obtain ⟨q, hq, e⟩ := asg_sur hb hi
  rw [← e, s.2 q hq, s'.2 q hq]
theorem turn_tot {c : List (List Int)} {a b : List Int} (ha : Asg a c.length) (h : Inv a b c.length) : totP (trC c) b c.length = totP c a c.length := by
  have hb := h.asg ha
  have e1 : totP (trC c) b c.length = sN (fun x => eC c (funA b x) x) c.length := by
    rw [totP_sN]
    exact sN_congr _ (fun x hx => trC_ent hx (hb.funA hx).2)
  rw [e1, totP_sN, ← sN_asg (g := fun x => eC c (funA b x) x) ha]
  refine sN_congr _ (fun q hq => ?_)
  have : funA b (funA a q) = q := by have := h.2 q hq; unfold funA at *; omega
  rw [this]
theorem turn_min_ {c : List (List Int)} (hC : Cst c) : minT (trC c) ≤ minT c := by
  obtain ⟨a, ha, e⟩ := min_att (c := c)
  obtain ⟨b, hb⟩ := inv_ex ha
  have h1 := turn_tot ha hb
  have h2 := min_le (c := trC c) (a := b) (by rw [trC_len]; exact hb.asg ha)
  rw [trC_len] at h2
  omega
theorem turn_min {c : List (List Int)} (hC : Cst c) : minT (trC c) = minT c := by
  have h1 := turn_min_ hC
  have h2 := turn_min_ (trC_cst hC)
  rw [trC_trC hC] at h2
  omega
theorem turn_ok {c : List (List Int)} {a b : List Int} {y : Int} (ha : Asg a c.length) (h : Inv a b c.length) (hk : OkA c y a) : OkA (trC c) y b := by
  have hb := h.asg ha
  refine ⟨by rw [trC_len]; exact hb, fun x hx => ?_⟩
  rw [trC_len] at hx
  have e : costA (trC c) b x = eC c (funA b x) x := trC_ent hx (hb.funA hx).2
  rw [e]
  have hs := (h.sym ha).2 x hx
  have := hk.2 (funA b x) (hb.funA hx).2
  have e2 : costA c a (funA b x) = eC c (funA b x) (funA a (funA b x)) := rfl
  rw [e2] at this
  have e3 : funA a (funA b x) = x := by unfold funA at hs ⊢; omega
  rw [e3] at this
  exact this
theorem turn_wid_ {c : List (List Int)} (hC : Cst c) {a b a' b' : List Int} {x x' : Int} (h : NarS c a x b) (h' : NarS (trC c) a' x' b') : x' ≤ x := by
  obtain ⟨d, hd⟩ := inv_ex h.ok.1
  have hk := turn_ok h.ok.1 hd h.ok
  have h1 := h'.min (trC_cst hC) hk.1
  have h2 := (okA_iff (c := trC c) (by rw [trC_len]; have := hC.n1; omega) hk.1).1 hk
  omega
theorem turn_wid {c : List (List Int)} (hC : Cst c) {a b a' b' : List Int} {x x' : Int} (h : NarS c a x b) (h' : NarS (trC c) a' x' b') : x = x' := by
  have h1 := turn_wid_ hC h h'
  have h2 := turn_wid_ (trC_cst hC) h' (by rw [trC_trC hC]; exact h)
  omega
theorem turn_cnt_ {c : List (List Int)} (s : Int) : cnL (leT c s) (allL c.length) ≤ cnL (leT (trC c) s) (allL c.length) := by
  unfold cnL
  have hx : ∀ a : List Int, ∃ b : List Int, Asg a c.length → Inv a b c.length := fun a => by
    by_cases h : Asg a c.length
    · obtain ⟨b, hb⟩ := inv_ex h; exact ⟨b, fun _ => hb⟩
    · exact ⟨[], fun e => absurd e h⟩
  obtain ⟨f, hf⟩ := Classical.axiomOfChoice hx
  have hm : ∀ a, a ∈ (allL c.length).filter (leT c s) → Asg a c.length ∧ totP c a c.length ≤ s := fun a ha => by
    obtain ⟨h1, h2⟩ := List.mem_filter.1 ha
    exact ⟨mem_allL.1 h1, by unfold leT at h2; simpa using h2⟩
  have hnd : ((allL c.length).filter (leT c s)).Nodup := (allL_nodup (n := c.length)).sublist List.filter_sublist
  have := nodup_sub (((allL c.length).filter (leT c s)).map f) ((allL c.length).filter (leT (trC c) s)) (by
    refine List.pairwise_map.2 (List.Pairwise.imp_of_mem (fun {x y} hx hy hne e => hne ?_) hnd)
    have h1 := hf x (hm x hx).1
    have h2 := hf y (hm y hy).1
    rw [e] at h1
    exact inv_uniq (hm x hx).1 (hm y hy).1 h1 h2) (fun b hb => by
    obtain ⟨a, ha, rfl⟩ := List.mem_map.1 hb
    obtain ⟨h1, h2⟩ := hm a ha
    have hi := hf a h1
    refine List.mem_filter.2 ⟨mem_allL.2 (hi.asg h1), ?_⟩
    unfold leT
    rw [trC_len, turn_tot h1 hi]
    simpa using h2)
  simpa using this
theorem turn_cnt {c : List (List Int)} (hC : Cst c) (s : Int) : cnL (leT c s) (allL c.length) = cnL (leT (trC c) s) (allL c.length) := by
  have h1 := turn_cnt_ (c := c) s
  have h2 := turn_cnt_ (c := trC c) s
  rw [trC_trC hC, trC_len] at h2
  omega
end Go.Proofs.Ytehjmakiljhjdaa
/- Plain: greedy is an assignment, with a pair of the least cost. -/
namespace Go.Proofs.Ytehjmakiljhjdaa
open Go Go.RowKit Go.Proofs.Ytehjmakiljhjdaa.VW
open Go.Proofs.Ytehjmakiljhjdaa.HP (SegP SortK)
theorem zsP_mem {n x y : Nat} (hx : x < n) (hy : y < n) : prC x y ∈ zsP n n 0 := by
  have hlt : n * x + y < n * n := by
    have : n * (x + 1) ≤ n * n := Nat.mul_le_mul_left n (by omega)
    rw [Nat.mul_add] at this; omega
  have h := zsP_get (n := n) (by omega) n 0 (n * x + y) (Nat.zero_le _) (by omega)
  have e1 : (n * x + y) / n = x := by
    rw [show n * x + y = y + n * x by omega, Nat.add_mul_div_left _ _ (by omega), Nat.div_eq_of_lt hy]; omega
  have e2 : (n * x + y) % n = y := by
    rw [show n * x + y = y + n * x by omega, Nat.add_mul_mod_self_left, Nat.mod_eq_of_lt hy]
  rw [e1, e2] at h
  exact mem_getD.2 ⟨n * x + y, by rw [zsP_len]; omega, h⟩
theorem zsP_rng {n : Nat} (hn : 0 < n) (h7 : n ≤ 7) {z : Int} (h : z ∈ zsP n n 0) : (0 ≤ z / 7 ∧ z / 7 < n) ∧ 0 ≤ z % 7 ∧ z % 7 < n := by
  obtain ⟨r, hr, e⟩ := mem_getD.1 h
  rw [zsP_len] at hr
  rw [zsP_get hn n 0 r (Nat.zero_le _) hr] at e
  have b1 := Nat.mod_lt r hn
  have c2 : r / n < n := Nat.div_lt_of_lt_mul (by omega)
  obtain ⟨t1, t2⟩ := prC_a (i := r / n) (j := r % n) (by omega)
  rw [e] at t1 t2
  rw [t1, t2]
  exact ⟨⟨Int.natCast_nonneg _, by exact_mod_cast c2⟩, Int.natCast_nonneg _, by exact_mod_cast b1⟩
theorem gr_asg {n : Nat} {os : List Int} (hn : 0 < n) (h7 : n ≤ 7) (hp : os.Perm (zsP n n 0)) : Asg (grF os (List.replicate n (-1))) n := by
  have hz : ∀ z, z ∈ os → (0 ≤ z / 7 ∧ z / 7 < n) ∧ 0 ≤ z % 7 ∧ z % 7 < n := fun z h => zsP_rng hn h7 (hp.mem_iff.1 h)
  obtain ⟨f1, -⟩ := GrI.fold os _ (GrI.start n) hz
  have hseen : ∀ x y : Nat, x < n → y < n → 0 ≤ (grF os (List.replicate n (-1))).getD x 0 ∨ (y : Int) ∈ grF os (List.replicate n (-1)) := fun x y hx hy => by
    obtain ⟨t1, t2⟩ := prC_a (i := x) (j := y) (by omega)
    have hm := hp.mem_iff.2 (zsP_mem hx hy)
    have := gr_seen (hz _ hm).1 (hz _ hm).2 os _ (GrI.start n) hz hm
    rw [t1, t2] at this
    simpa using this
  generalize grF os (List.replicate n (-1)) = g at *
  have hl := f1.len
  have hpos : ∀ x, x < n → 0 ≤ g.getD x 0 := fun x hx => Classical.byContradiction fun hneg => by
    have hall : ∀ y : Nat, ∃ i : Nat, y < n → i < n ∧ g.getD i 0 = (y : Int) := fun y => by
      by_cases hy : y < n
      · rcases hseen x y hx hy with h | h
        · exact absurd h hneg
        · obtain ⟨i, hi, e⟩ := mem_getD.1 h
          exact ⟨i, fun _ => ⟨by omega, e⟩⟩
      · exact ⟨0, fun h => absurd h hy⟩
    obtain ⟨f, hf⟩ := Classical.axiomOfChoice hall
    have := cover (n := n) (l := (List.range n).map f) (map_inj_nodup (fun i k hi hk e => by
      have h1 := (hf i hi).2
      have h2 := (hf k hk).2
      rw [e] at h1
      omega)) (fun y hy => by
      obtain ⟨i, hi, rfl⟩ := List.mem_map.1 hy
      exact (hf i (List.mem_range.1 hi)).1) (by simp) hx
    obtain ⟨y, hy, e⟩ := List.mem_map.1 this
    have := (hf y (List.mem_range.1 hy)).2
    rw [e] at this
    omega
  refine ⟨hl, fun i hi => ⟨?_, fun k hk => ?_⟩⟩
  · rcases f1.rng i (by omega) with e | e
    · have := hpos i (by omega); omega
    · exact e
  · exact f1.ne k i (by omega) (by omega) (by omega) (hpos k (by omega))
end Go.Proofs.Ytehjmakiljhjdaa
/- Plain: greedy holds a pair of the least cost. -/
namespace Go.Proofs.Ytehjmakiljhjdaa
open Go Go.RowKit Go.Proofs.Ytehjmakiljhjdaa.VW
open Go.Proofs.Ytehjmakiljhjdaa.HP (SegP SortK)
theorem zsP_bd {n : Nat} (hn : 0 < n) (h7 : n ≤ 7) {z : Int} (h : z ∈ zsP n n 0) : 0 ≤ z ∧ z < 49 := by
  have := zsP_rng hn h7 h
  omega
theorem gr_least {c : List (List Int)} {os : List Int} (hn : 0 < c.length) (h7 : c.length ≤ 7) (hp : os.Perm (zsP c.length c.length 0)) (hs : SortK (kG c) os 0 os.length) :
    ∃ x, x < c.length ∧ ∀ i j : Nat, i < c.length → j < c.length → eC c x (funA (grF os (List.replicate c.length (-1))) x) ≤ eC c i j := by
  have hpl : os.length = c.length * c.length := by rw [hp.length_eq, zsP_len]; omega
  have hpos : 0 < c.length * c.length := Nat.mul_pos hn hn
  have hz : ∀ z, z ∈ os → (0 ≤ z / 7 ∧ z / 7 < c.length) ∧ 0 ≤ z % 7 ∧ z % 7 < c.length := fun z h => zsP_rng hn h7 (hp.mem_iff.1 h)
  have hb : ∀ z, z ∈ os → 0 ≤ z ∧ z < 49 := fun z h => zsP_bd hn h7 (hp.mem_iff.1 h)
  cases os with
  | nil => simp at hpl; omega
  | cons z0 r =>
    obtain ⟨a1, a2⟩ := hz z0 (List.mem_cons_self ..)
    have hg0 : grS (List.replicate c.length (-1)) z0 = (List.replicate c.length (-1)).set (z0 / 7).toNat (z0 % 7) := by
      unfold grS
      rw [if_pos]
      refine ⟨?_, fun h => ?_⟩
      · simp [List.getD_eq_getElem?_getD, show (z0 / 7).toNat < c.length by omega]
      · have := List.eq_of_mem_replicate h; omega
    have s1 := (GrI.start c.length).step a1 a2
    have f2 := (GrI.fold r _ s1.1 (fun x hx => hz x (List.mem_cons_of_mem _ hx))).2 (z0 / 7).toNat (by omega)
    rw [hg0, getD_setE (by simp; omega), if_pos rfl] at f2
    have f3 : (grF (z0 :: r) (List.replicate c.length (-1))).getD (z0 / 7).toNat 0 = z0 % 7 := by
      show (grF r (grS (List.replicate c.length (-1)) z0)).getD _ 0 = _
      rw [hg0]; exact f2 a2.1
    refine ⟨(z0 / 7).toNat, by omega, fun i j hi hj => ?_⟩
    unfold funA
    rw [f3]
    have e0 : eC c (z0 / 7).toNat (z0 % 7).toNat = ceA c z0 := rfl
    rw [e0]
    have hm := hp.mem_iff.2 (zsP_mem hi hj)
    obtain ⟨t1, t2⟩ := prC_a (i := i) (j := j) (by omega)
    have e1 : eC c i j = ceA c (prC i j) := by
      unfold ceA row eC
      rw [t1, t2]
      rfl
    rw [e1]
    obtain ⟨q, hq, e⟩ := mem_getD.1 hm
    have hb0 := hb z0 (List.mem_cons_self ..)
    have hb1 := hb _ hm
    rcases Nat.eq_zero_or_pos q with h0 | h0
    · subst h0
      have : z0 = prC i j := by simpa using e
      rw [this]; exact Int.le_refl _
    · have := hs 0 q (Nat.le_refl _) h0 hq
      rw [e] at this
      have e3 : (z0 :: r).getD 0 0 = z0 := rfl
      rw [e3] at this
      unfold kG at this
      omega
end Go.Proofs.Ytehjmakiljhjdaa
/- Plain: taking the free pair that costs least, again and again, is taking the sorted pairs greedily. -/
namespace Go.Proofs.Ytehjmakiljhjdaa
open Go Go.RowKit Go.Proofs.Ytehjmakiljhjdaa.VW
open Go.Proofs.Ytehjmakiljhjdaa.HP (SegP SortK)
def FreeP (g : List Int) (z : Int) : Prop := g.getD (z / 7).toNat 0 < 0 ∧ ¬ (z % 7 ∈ g)
theorem grS_not {g : List Int} {z : Int} (h : ¬ FreeP g z) : grS g z = g := if_neg h
theorem grS_yes {g : List Int} {z : Int} (h : FreeP g z) : grS g z = g.set (z / 7).toNat (z % 7) := if_pos h
theorem grF_none : ∀ {p g : List Int}, (∀ z, z ∈ p → ¬ FreeP g z) → grF p g = g
  | [], g, _ => rfl
  | a :: p, g, h => by
    show grF p (grS g a) = g
    rw [grS_not (h a (List.mem_cons_self ..))]
    exact grF_none (fun z hz => h z (List.mem_cons_of_mem _ hz))
theorem FreeP.mono {g : List Int} {a z : Int} (ha : (a / 7).toNat < g.length) (h : FreeP (grS g a) z) : FreeP g z := by
  by_cases hf : FreeP g a
  · rw [grS_yes hf] at h
    obtain ⟨h1, h2⟩ := h
    rw [getD_setE ha] at h1
    split at h1
    · omega
    · refine ⟨h1, fun hm => h2 ?_⟩
      obtain ⟨i, hi, e⟩ := mem_getD.1 hm
      refine mem_getD.2 ⟨i, by simpa using hi, ?_⟩
      rw [getD_setE ha, if_neg, e]
      intro e2
      subst e2
      have := hf.1
      omega
  · rw [grS_not hf] at h; exact h
theorem FreeP.gone {g : List Int} {a : Int} (ha : (a / 7).toNat < g.length) : ¬ FreeP (grS g a) a := fun h => by
  have hf := h.mono ha
  rw [grS_yes hf] at h
  have := h.1
  rw [getD_setE ha, if_pos rfl] at this
  omega
theorem gr_next {K : Int → Int} {os g : List Int} {z : Int} (hz : (z / 7).toNat < g.length) (hs : SortK K os 0 os.length) (hm : z ∈ os) (hmin : ∀ x, x ∈ os → FreeP g x → K z ≤ K x) : grF os (grS g z) = grF os g := by
  obtain ⟨p, r, rfl⟩ := List.append_of_mem hm
  have hp : ∀ x, x ∈ p → ¬ FreeP g x := fun x hx hf => by
    obtain ⟨i, hi, e⟩ := mem_getD.1 hx
    have h1 := hs i p.length (Nat.zero_le _) hi (by simp)
    have e1 : (p ++ z :: r).getD i 0 = x := by
      rw [← e]; simp [List.getD_eq_getElem?_getD, List.getElem?_append_left hi]
    have e2 : (p ++ z :: r).getD p.length 0 = z := by
      simp [List.getD_eq_getElem?_getD]
    rw [e1, e2] at h1
    have := hmin x (by simp [hx]) hf
    omega
  have a1 : ∀ g', grF (p ++ z :: r) g' = grF r (grS (grF p g') z) := fun g' => by simp [grF]
  rw [a1, a1, grF_none hp, grF_none (fun x hx hf => hp x hx (hf.mono hz)), grS_not (FreeP.gone hz)]
/-- How many buttons have no hole. -/
def negs (g : List Int) : Nat := g.countP (fun x => decide (x < 0))
theorem negs_start (n : Nat) : negs (List.replicate n (-1)) = n := by simp [negs, List.countP_replicate]
theorem negs_set {g : List Int} {i : Nat} {y : Int} (hi : i < g.length) (h : g.getD i 0 < 0) (hy : 0 ≤ y) : negs (g.set i y) = negs g - 1 := by
  unfold negs
  rw [List.countP_set hi]
  have : g[i] < 0 := by simpa [List.getD_eq_getElem?_getD, hi] using h
  simp [this, show ¬ y < 0 by omega]
theorem negs_zero {g : List Int} (h : negs g = 0) (i : Nat) : ¬ g.getD i 0 < 0 := fun hlt => by
  have hz := List.countP_eq_zero.1 h
  by_cases hi : i < g.length
  · have := hz (g.getD i 0) (mem_getD.2 ⟨i, hi, rfl⟩)
    exact this (decide_eq_true hlt)
  · simp [List.getD_eq_getElem?_getD, List.getElem?_eq_none (show g.length ≤ i by omega)] at hlt
theorem negs_free {g : List Int} {n : Nat} (hG : GrI n g) (h7 : n ≤ 7) (h : 0 < negs g) : ∃ x y : Nat, x < n ∧ y < n ∧ FreeP g (prC x y) := by
  obtain ⟨v, hv, hv2⟩ := List.countP_pos_iff.1 h
  obtain ⟨x, hx, e⟩ := mem_getD.1 hv
  rw [hG.len] at hx
  have hx0 : g.getD x 0 < 0 := by rw [e]; simpa using hv2
  apply Classical.byContradiction
  intro hno
  have hall : ∀ y : Nat, ∃ i : Nat, y < n → i < n ∧ g.getD i 0 = (y : Int) := fun y => by
    by_cases hy : y < n
    · have : (y : Int) ∈ g := Classical.byContradiction fun hm => hno ⟨x, y, hx, hy, by
        obtain ⟨t1, t2⟩ := prC_a (i := x) (j := y) (by omega)
        unfold FreeP; rw [t1, t2]; exact ⟨by simpa using hx0, hm⟩⟩
      obtain ⟨i, hi, e⟩ := mem_getD.1 this
      exact ⟨i, fun _ => ⟨by rw [hG.len] at hi; exact hi, e⟩⟩
    · exact ⟨0, fun h => absurd h hy⟩
  obtain ⟨f, hf⟩ := Classical.axiomOfChoice hall
  have := cover (n := n) (l := (List.range n).map f) (map_inj_nodup (fun i k hi hk e => by
    have h1 := (hf i hi).2
    have h2 := (hf k hk).2
    rw [e] at h1
    omega)) (fun y hy => by
    obtain ⟨i, hi, rfl⟩ := List.mem_map.1 hy
    exact (hf i (List.mem_range.1 hi)).1) (by simp) hx
  obtain ⟨y, hy, e2⟩ := List.mem_map.1 this
  have := (hf y (List.mem_range.1 hy)).2
  rw [e2] at this
  omega
theorem zsP_lt {n : Nat} (h7 : n ≤ 7) : ∀ (i j : Nat), j ≤ 7 → ∀ z, z ∈ zsP n i j → 0 ≤ z ∧ z < prC i j
  | 0, j, hj, z, h => by
    simp only [zsP, List.mem_map, List.mem_range] at h
    obtain ⟨k, hk, rfl⟩ := h
    unfold prC; omega
  | i + 1, j, hj, z, h => by
    simp only [zsP, List.mem_append, List.mem_map, List.mem_range] at h
    rcases h with h | ⟨k, hk, rfl⟩
    · have := zsP_lt h7 i n h7 z h
      unfold prC at this ⊢; omega
    · unfold prC; omega
/-- The best free pair among those looked at. -/
def MinP (c : List (List Int)) (g l : List Int) (x y : Int) : Prop :=
  (x = -1 ∧ y = -1 ∧ ∀ z, z ∈ l → ¬ FreeP g z) ∨ ∃ i j : Nat, x = i ∧ y = j ∧ i < c.length ∧ j < c.length ∧ prC i j ∈ l ∧ FreeP g (prC i j) ∧ ∀ z, z ∈ l → FreeP g z → kG c (prC i j) ≤ kG c z
theorem ceA_pr {c : List (List Int)} {i j : Nat} (hj : j < 7) : ceA c (prC i j) = eC c i j := by
  obtain ⟨t1, t2⟩ := prC_a (i := i) (j := j) hj
  unfold ceA row eC
  rw [t1, t2]
  rfl
theorem FreeP_pr {g : List Int} {i j : Nat} (hj : j < 7) : FreeP g (prC i j) ↔ g.getD i 0 < 0 ∧ ¬ ((j : Int) ∈ g) := by
  obtain ⟨t1, t2⟩ := prC_a (i := i) (j := j) hj
  unfold FreeP
  rw [t1, t2]
  exact Iff.rfl
theorem MinP.keep {c : List (List Int)} {g l : List Int} {x y z : Int} (h : MinP c g l x y) (hz : ¬ FreeP g z) : MinP c g (l ++ [z]) x y := by
  rcases h with ⟨h1, h2, h3⟩ | ⟨i, j, h1, h2, h3, h4, h5, h6, h7⟩
  · refine .inl ⟨h1, h2, fun z' hz' => ?_⟩
    rcases List.mem_append.1 hz' with h | h
    · exact h3 _ h
    · rw [List.mem_singleton.1 h]; exact hz
  · refine .inr ⟨i, j, h1, h2, h3, h4, by simp [h5], h6, fun z' hz' hf => ?_⟩
    rcases List.mem_append.1 hz' with h | h
    · exact h7 _ h hf
    · rw [List.mem_singleton.1 h] at hf; exact absurd hf hz
theorem MinP.first {c : List (List Int)} {g l : List Int} {y : Int} {i j : Nat} (h : MinP c g l (-1) y) (hi : i < c.length) (hj : j < c.length) (hz : FreeP g (prC i j)) : MinP c g (l ++ [prC i j]) i j := by
  rcases h with ⟨h1, h2, h3⟩ | ⟨i, j, h1, h2, h3, h4, h5, h6, h7⟩
  · refine .inr ⟨i, j, rfl, rfl, hi, hj, by simp, hz, fun z' hz' hf => ?_⟩
    rcases List.mem_append.1 hz' with h | h
    · exact absurd hf (h3 _ h)
    · rw [List.mem_singleton.1 h]; exact Int.le_refl _
  · omega
theorem MinP.less {c : List (List Int)} {g : List Int} {x y i j : Nat} (h7 : c.length ≤ 7) (h : MinP c g (zsP c.length i j) x y) (hi : i < c.length) (hj : j < c.length) (hz : FreeP g (prC i j)) (hlt : eC c i j < eC c x y) : MinP c g (zsP c.length i (j + 1)) i j := by
  rw [zsP_snoc]
  rcases h with ⟨h1, h2, h3⟩ | ⟨i', j', h1, h2, h3, h4, h5, h6, h8⟩
  · omega
  · obtain rfl : x = i' := by omega
    obtain rfl : y = j' := by omega
    refine .inr ⟨i, j, rfl, rfl, hi, hj, by simp, hz, fun z' hz' hf => ?_⟩
    rcases List.mem_append.1 hz' with h | h
    · have a1 := h8 _ h hf
      have a2 := zsP_lt h7 i j (by omega) _ h5
      have a3 : prC i j < 49 := by unfold prC; omega
      unfold kG at a1 ⊢
      rw [ceA_pr (by omega)] at a1 ⊢
      omega
    · rw [List.mem_singleton.1 h]; exact Int.le_refl _
theorem MinP.not {c : List (List Int)} {g : List Int} {x y i j : Nat} (h7 : c.length ≤ 7) (h : MinP c g (zsP c.length i j) x y) (hi : i < c.length) (hj : j < c.length) (hlt : ¬ eC c i j < eC c x y) : MinP c g (zsP c.length i (j + 1)) x y := by
  rw [zsP_snoc]
  rcases h with ⟨h1, h2, h3⟩ | ⟨i', j', h1, h2, h3, h4, h5, h6, h8⟩
  · omega
  · obtain rfl : x = i' := by omega
    obtain rfl : y = j' := by omega
    refine .inr ⟨x, y, rfl, rfl, h3, h4, by simp [h5], h6, fun z' hz' hf => ?_⟩
    rcases List.mem_append.1 hz' with h | h
    · exact h8 _ h hf
    · rw [List.mem_singleton.1 h]
      have a2 := zsP_lt h7 i j (by omega) _ h5
      unfold kG
      rw [ceA_pr (by omega), ceA_pr (by omega)]
      omega
theorem MinP.nil {c : List (List Int)} {g : List Int} : MinP c g (zsP c.length 0 0) (-1) (-1) := .inl ⟨rfl, rfl, by simp [zsP]⟩
/-- What stands before a round. -/
structure GrR (c : List (List Int)) (os G : List Int) (k : Nat) (g : List Int) : Prop where
  gr : GrI c.length g
  ng : negs g = c.length - k
  fin : grF os g = G
theorem GrR.end_ {c : List (List Int)} {os G g : List Int} (h : GrR c os G c.length g) : g = G := by
  rw [← h.fin]
  exact (grF_none (fun z _ hf => negs_zero (by rw [h.ng]; omega) _ hf.1)).symm
theorem GrR.start (c : List (List Int)) (os : List Int) : GrR c os (grF os (List.replicate c.length (-1))) 0 (List.replicate c.length (-1)) := ⟨GrI.start _, negs_start _, rfl⟩
theorem GrR.step {c : List (List Int)} {os G g : List Int} {k : Nat} {x y : Int} (h : GrR c os G k g) (hk : k < c.length) (h7 : c.length ≤ 7) (hp : os.Perm (zsP c.length c.length 0)) (hs : SortK (kG c) os 0 os.length) (hM : MinP c g (zsP c.length c.length 0) x y) :
    ∃ i j : Nat, x = i ∧ y = j ∧ i < c.length ∧ j < c.length ∧ g.getD i 0 < 0 ∧ GrR c os G (k + 1) (g.set i j) := by
  have hng := h.ng
  obtain ⟨fx, fy, f1, f2, f3⟩ := negs_free h.gr h7 (by omega)
  rcases hM with ⟨h1, h2, h3⟩ | ⟨i, j, h1, h2, h3, h4, h5, h6, h8⟩
  · exact absurd f3 (h3 _ (zsP_mem f1 f2))
  · have hj7 : j < 7 := by omega
    obtain ⟨t1, t2⟩ := prC_a (i := i) (j := j) hj7
    have hl := h.gr.len
    have hr := zsP_rng (by omega) h7 h5
    have e := grS_yes h6
    rw [t1, t2] at e
    have e' : grS g (prC i j) = g.set i j := by simpa using e
    have hf := (FreeP_pr hj7).1 h6
    refine ⟨i, j, h1, h2, h3, h4, hf.1, ?_, ?_, ?_⟩
    · rw [← e']; exact (h.gr.step hr.1 hr.2).1
    · rw [negs_set (by omega) hf.1 (by omega)]; omega
    · rw [← e', gr_next (K := kG c) (by omega) hs (hp.mem_iff.2 h5) (fun x hx hf => h8 _ (hp.mem_iff.1 hx) hf)]
      exact h.fin
/-- The holes that are taken. -/
def usB (g : List Int) (n : Nat) : List Bool := (List.range n).map (fun y => decide (((y : Nat) : Int) ∈ g))
theorem usB_len {g : List Int} {n : Nat} : (usB g n).length = n := by simp [usB]
theorem usB_at {g : List Int} {n j : Nat} (h : j < n) : (usB g n).getD j false = decide ((j : Int) ∈ g) := by simp [usB, List.getD_eq_getElem?_getD, h]
theorem usB_start (n : Nat) : usB (List.replicate n (-1)) n = List.replicate n false := by
  refine List.ext_getElem (by simp [usB]) (fun i h1 h2 => ?_)
  simp only [usB, List.getElem_map, List.getElem_range, List.getElem_replicate, decide_eq_false_iff_not]
  intro h
  have := List.eq_of_mem_replicate h; omega
theorem usB_set {g : List Int} {n i j : Nat} (hi : i < g.length) (hneg : g.getD i 0 < 0) (hj : j < n) : (usB g n).set j true = usB (g.set i j) n := by
  refine List.ext_getElem (by simp [usB]) (fun k h1 h2 => ?_)
  have hk : k < n := by simpa [usB] using h2
  rw [List.getElem_set]
  simp only [usB, List.getElem_map, List.getElem_range]
  split
  · rename_i e; subst e
    exact (decide_eq_true (mem_getD.2 ⟨i, by simpa using hi, by rw [getD_setE hi, if_pos rfl]⟩)).symm
  · rename_i e
    rw [Bool.eq_iff_iff]
    simp only [decide_eq_true_eq]
    constructor
    · intro h
      obtain ⟨q, hq, e2⟩ := mem_getD.1 h
      refine mem_getD.2 ⟨q, by simpa using hq, ?_⟩
      rw [getD_setE hi, if_neg, e2]
      intro e3; subst e3; omega
    · intro h
      obtain ⟨q, hq, e2⟩ := mem_getD.1 h
      rw [getD_setE hi] at e2
      split at e2
      · omega
      · exact mem_getD.2 ⟨q, by simpa using hq, e2⟩
end Go.Proofs.Ytehjmakiljhjdaa
namespace Go.Proofs.Ytehjmakiljhjdaa
open Go Go.RowKit Go.Proofs.Ytehjmakiljhjdaa.VW
attribute [local irreducible] W Ops OrdA VW.Ord OrdX
def tn (c : List (List Int)) (q : Nat) : Nat := (tt c q + 7000).toNat
theorem tot_bd {c : List (List Int)} (hC : Cst c) {a : List Int} (h : Asg a c.length) : -7000 ≤ totP c a c.length ∧ totP c a c.length ≤ 7000 := by
  have := totP_bd hC (fun i hi => (h.2 i hi).1) (by rw [h.1]; exact Nat.le_refl _) c.length (by rw [h.1]; exact Nat.le_refl _)
  have := hC.n7
  omega
theorem tn_bd {c : List (List Int)} (hC : Cst c) {q : Nat} (h : q < (allL c.length).length) : (tn c q : Int) = tt c q + 7000 ∧ tn c q ≤ 14000 := by
  have := tot_bd hC (all_asg h)
  unfold tn tt
  omega
def manyL (c : List (List Int)) (i : Nat) : List Int := (List.range 14001).map fun t => ((ct (fun q => decide (tn c q = t)) i : Nat) : Int)
theorem manyL_len (c : List (List Int)) (i : Nat) : (manyL c i).length = 14001 := by simp [manyL]
theorem manyL_get {c : List (List Int)} {i t : Nat} (h : t < 14001) : (manyL c i).getD t 0 = (ct (fun q => decide (tn c q = t)) i : Nat) := by simp [manyL, List.getD_eq_getElem?_getD, h]
theorem manyL_set {c : List (List Int)} {i : Nat} (h : tn c i < 14001) : (manyL c i).set (tn c i) ((manyL c i).getD (tn c i) 0 + 1) = manyL c (i + 1) := by
  rw [manyL_get h]
  refine List.ext_getElem (by simp [manyL]) fun t h1 h2 => ?_
  rw [List.getElem_set]
  simp only [manyL, List.getElem_map, List.getElem_range, ct]
  by_cases e : tn c i = t
  · subst e; simp
  · simp [e]
theorem ct_le_succ {c : List (List Int)} {t N : Nat} : ct (fun q => decide (tn c q < t + 1)) N = ct (fun q => decide (tn c q < t)) N + ct (fun q => decide (tn c q = t)) N := by
  rw [← ct_or _ (fun i _ h => by simp at h ⊢; omega)]
  refine ct_congr _ (fun i _ => ?_)
  rw [Bool.eq_iff_iff]
  simp only [Bool.or_eq_true, decide_eq_true_eq]
  omega
theorem manyL_zero_ {c : List (List Int)} (m : Nat) : (List.replicate m 0 : List Int) = (List.range m).map fun t => ((ct (fun q => decide (tn c q = t)) 0 : Nat) : Int) := List.ext_getElem (by simp) fun t h1 h2 => by simp [ct]
theorem manyL_zero {c : List (List Int)} : (List.replicate 14001 0 : List Int) = manyL c 0 := manyL_zero_ 14001
attribute [local irreducible] manyL
set_option maxHeartbeats 2000000 in
theorem Item_ref_c {w : World} {cv : Value} {c : List (List Int)} (hM : RowsM w cv c) (hC : Cst c) {k : Nat} (hk : k < (allL c.length).length) : Calls Try.prog 46 #[cv, .int .i64 (k : Int)] w (Ret fun r w' => (∃ p, p < (allL c.length).length ∧ rank c p = k ∧ SlI w' r ((allL c.length).getD p [])) ∧ Below w.heap.size w w') := by
  have hn7 := hC.n7
  have hL := levL_lt (n := c.length) (i := c.length) hn7 hn7
  have hpos := allL_pos (n := c.length)
  change (allL c.length).length ≤ 823543 at hL
  obtain ⟨Ac, cc, rfl⟩ := hM.sl
  refine calls_W (vs := [_, _]) Try.func46 rfl (by kernel_rfl) rfl ?_
  (repeat (first | with_reducible refine W.seq ?_ | with_reducible refine Ops.nil ?_ | with_reducible refine W.region ?_ | refine z_p (kk := ?_) | refine z_l (kk := ?_)))
  refine Ops.call rfl rfl rfl rfl rfl (All_c hn7) (fun r w1 hR => ?_)
  obtain ⟨lvs, hR⟩ := hR
  have hb1 := hR.o.bel
  have hML := hR.rowsM
  obtain ⟨AL, cL, rfl⟩ := hML.sl
  have hrow : ∀ i : Nat, row (allL c.length) i = (allL c.length).getD i [] := fun i => by simp [row]
  have hasg : ∀ i : Nat, i < (allL c.length).length → Asg (row (allL c.length) i) c.length := fun i hi => by rw [hrow]; exact all_asg hi
  (repeat (first | with_reducible refine W.seq ?_ | with_reducible refine Ops.nil ?_ | with_reducible refine W.region ?_ | refine z_p (kk := ?_) | refine z_a (kk := ?_)))
  refine Ops.mkO (Value.int .i64) 0 (i := 14001) (w0 := w1) rfl rfl rfl rfl rfl rfl rfl rfl rfl (by omega) rfl (Below.refl _ _) (fun w2 rb hO2 k2 hr2 => ?_)
  rw [manyL_zero] at hO2
  (repeat (first | with_reducible refine W.seq ?_ | with_reducible refine Ops.nil ?_ | with_reducible refine W.region ?_ | refine z_p (kk := ?_) | with_reducible refine W.block ?_))
  refine W.loop (fun m ρ w3 => ∃ (i : Nat), m = (allL c.length).length - i ∧ i ≤ (allL c.length).length ∧ ρ = [(0, .slice Ac c.length cc), (1, .int .i64 (k : Int)), (5, .slice AL (allL c.length).length cL), (6, .int .i64 (-7000)), (7, .slice (some ⟨rb, 0, none⟩) 14001 14001), (8, .int .i64 i)] ∧ OI 3 (Value.int .i64) w1 w3 (.slice (some ⟨rb, 0, none⟩) 14001 14001) (manyL c i))
    ⟨_, _, ⟨0, rfl, Nat.zero_le _, rfl, hO2⟩, (by repeat (first | exact trivial | refine And.intro rfl ?_))⟩ ?_
  rintro m ρ w3 ⟨i, rfl, hi, rfl, hO⟩
  have hb3 := hO.bel
  have hb03 := Below.via hb1 hb3
  (repeat (first | with_reducible refine W.seq ?_ | with_reducible refine Ops.nil ?_ | with_reducible refine W.region ?_ | refine z_p (kk := ?_) | refine z_l (kk := ?_)))
  (first | refine W.condD rfl (fun hc => ?_) (fun hc => ?_) | refine W.condE rfl (fun hc => ?_) (fun hc => ?_) | refine W.condN rfl (fun hc => ?_) (fun hc => ?_) | refine W.cond rfl (fun hc => ?_) (fun hc => ?_))
  · have hil : i < (allL c.length).length := by omega
    have hai := hasg i hil
    have htb := tot_bd hC hai
    have htn := tn_bd hC hil
    (repeat (first | with_reducible refine W.seq ?_ | with_reducible refine W.region ?_ | refine z_p (kk := ?_) | with_reducible refine W.skip ?_ | with_reducible refine W.block ?_ | refine z_r (kk := fun _ _ _ _ => ?_)))
    rename_i Ai mi _ hsi
    refine Ops.call rfl rfl rfl rfl rfl (refTotal_c (hM.below hb03) hC (Sl.below hsi hb3) (fun q hq => (hai.2 q hq).1) (by rw [hai.1]; exact Nat.le_refl _)) (fun r w4 hR => ?_)
    obtain ⟨rfl, hb4⟩ := hR
    have hO4 := hO.below hb4
    have hb14 := hO4.bel
    have hlen := manyL_len c i
    rw [hai.1]
    have hT : totP c (row (allL c.length) i) c.length - -7000 = (tn c i : Int) := by rw [hrow, htn.1]; unfold tt; omega
    (repeat (first | with_reducible refine Ops.nil ?_ | with_reducible refine W.region ?_ | refine z_p (kk := ?_) | refine z_a (kk := ?_) | refine z_K (kk := fun _ => ?_)))
    rw [hT]
    have hg := manyL_get (c := c) (i := i) (t := (tn c i : Int).toNat) (by omega)
    have hcl := ct_le (fun q => decide (tn c q = (tn c i : Int).toNat)) i
    (repeat (first | refine z_a (kk := ?_)))
    refine Ops.wrO (enc := Value.int .i64) (u := (manyL c i).getD (tn c i : Int).toNat 0 + 1) rfl rfl rfl rfl rfl rfl rfl rfl rfl rfl rfl rfl (by simp) rfl hO4 (by rw [hlen]; omega) (fun w5 p hO5 k5 hs5 => ?_)
    rw [Int.toNat_natCast, manyL_set (by omega)] at hO5
    (repeat (first | with_reducible refine Ops.nil ?_ | with_reducible refine W.region ?_ | refine z_p (kk := ?_) | refine z_a (kk := ?_) | with_reducible refine W.endb ?_))
    exact W.endl ⟨_, _, ⟨⟨i + 1, rfl, by omega, rfl, hO5⟩, by omega⟩, (by repeat (first | exact trivial | refine And.intro rfl ?_))⟩
  · have hil : i = (allL c.length).length := by omega
    subst hil
    have hlen := manyL_len c (allL c.length).length
    (repeat (first | with_reducible refine W.seq ?_ | with_reducible refine Ops.nil ?_ | with_reducible refine W.region ?_ | refine z_p (kk := ?_) | with_reducible refine W.block ?_ | refine W.exit rfl ?_))
    refine W.loop (fun m ρ w4 => ∃ (t : Nat) (kk : Int), m = 14001 - t ∧ t ≤ 14000 ∧ w4 = w3 ∧ kk = (k : Int) - (ct (fun q => decide (tn c q < t)) (allL c.length).length : Nat) ∧ 0 ≤ kk ∧ ρ = [(0, .slice Ac c.length cc), (1, .int .i64 kk), (5, .slice AL (allL c.length).length cL), (6, .int .i64 (-7000)), (7, .slice (some ⟨rb, 0, none⟩) 14001 14001), (10, .int .i64 t)])
      ⟨_, _, ⟨0, (k : Int), rfl, by omega, rfl, by rw [ct_none _ (fun i _ => by simp)]; omega, by omega, rfl⟩, (by repeat (first | exact trivial | refine And.intro rfl ?_))⟩ ?_
    rintro m ρ w4 ⟨t, kk, rfl, ht, rfl, hkk, hkk0, rfl⟩
    have hg := manyL_get (c := c) (i := (allL c.length).length) (t := t) (by omega)
    have hcs := ct_le_succ (c := c) (t := t) (N := (allL c.length).length)
    (repeat (first | with_reducible refine W.seq ?_ | with_reducible refine Ops.nil ?_ | with_reducible refine W.region ?_ | refine z_p (kk := ?_) | refine z_I (kk := fun _ => ?_)))
    by_cases hge : kk ≥ (manyL c (allL c.length).length).getD t 0
    · refine W.condT rfl (by first | rfl | assumption | (simp only [bnf] <;> omega) | (simp only [*, bnf]; done) | fail) ?_
      (repeat (first | with_reducible refine W.seq ?_ | with_reducible refine Ops.nil ?_ | with_reducible refine W.region ?_ | refine z_p (kk := ?_) | refine z_a (kk := ?_) | with_reducible refine W.skip ?_ | with_reducible refine W.endb ?_ | with_reducible refine W.block ?_ | refine z_I (kk := fun _ => ?_)))
      refine W.endl ⟨_, _, ⟨⟨t + 1, kk - (manyL c (allL c.length).length).getD t 0, rfl, ?_, rfl, by omega, by omega, rfl⟩, by omega⟩, (by repeat (first | exact trivial | refine And.intro rfl ?_))⟩
      have hlt : ct (fun q => decide (tn c q < t + 1)) (allL c.length).length < (allL c.length).length := by omega
      obtain ⟨q, q1, q2⟩ := ct_lt _ hlt
      have := (tn_bd hC q1).2
      simp at q2
      omega
    · refine W.condF rfl (by first | rfl | assumption | (simp only [bnf] <;> omega) | (simp only [*, bnf]; done) | fail) ?_
      (repeat (first | with_reducible refine W.seq ?_ | with_reducible refine Ops.nil ?_ | with_reducible refine W.region ?_ | refine z_p (kk := ?_) | with_reducible refine W.block ?_ | refine W.exit rfl ?_))
      refine W.loop (fun m ρ w5 => ∃ (i : Nat) (k2 : Int), m = (allL c.length).length + 1 - i ∧ i ≤ (allL c.length).length ∧ k2 = kk - (ct (fun q => decide (tn c q = t)) i : Nat) ∧ -1 ≤ k2 ∧ (k2 = -1 → 1 ≤ i ∧ tn c (i - 1) = t ∧ (ct (fun q => decide (tn c q = t)) (i - 1) : Int) = kk) ∧ Below w4.heap.size w4 w5 ∧ ρ = [(0, .slice Ac c.length cc), (1, .int .i64 k2), (5, .slice AL (allL c.length).length cL), (6, .int .i64 (-7000)), (10, .int .i64 t), (11, .int .i64 i)])
        ⟨_, _, ⟨0, kk, rfl, Nat.zero_le _, by simp [ct], by omega, fun h => by omega, Below.refl _ _, rfl⟩, (by repeat (first | exact trivial | refine And.intro rfl ?_))⟩ ?_
      rintro m ρ w5 ⟨i, k2, rfl, hi2, hk2, hk21, hk22, hb5, rfl⟩
      have hb15 := Below.via hb3 hb5
      have hb05 := Below.via hb03 hb5
      (repeat (first | with_reducible refine W.seq ?_ | with_reducible refine Ops.nil ?_ | with_reducible refine W.region ?_ | refine z_p (kk := ?_)))
      (first | refine W.condD rfl (fun hc => ?_) (fun hc => ?_) | refine W.condE rfl (fun hc => ?_) (fun hc => ?_) | refine W.condN rfl (fun hc => ?_) (fun hc => ?_) | refine W.cond rfl (fun hc => ?_) (fun hc => ?_))
      · have hil : i < (allL c.length).length := by
          rcases Nat.lt_or_ge i (allL c.length).length with h | h
          · exact h
          · obtain rfl : i = (allL c.length).length := by omega
            omega
        have hai := hasg i hil
        have htb := tot_bd hC hai
        have htn := tn_bd hC hil
        (repeat (first | with_reducible refine W.seq ?_ | with_reducible refine W.region ?_ | refine z_p (kk := ?_) | with_reducible refine W.skip ?_ | with_reducible refine W.block ?_ | refine z_r (kk := fun _ _ _ _ => ?_)))
        rename_i Ai mi _ hsi
        refine Ops.call rfl rfl rfl rfl rfl (refTotal_c (hM.below hb05) hC (Sl.below hsi hb15) (fun q hq => (hai.2 q hq).1) (by rw [hai.1]; exact Nat.le_refl _)) (fun r w6 hR => ?_)
        obtain ⟨rfl, hb6⟩ := hR
        have hb46 := Below.via hb5 hb6
        rw [hai.1]
        have hT : totP c (row (allL c.length) i) c.length - -7000 = (tn c i : Int) := by rw [hrow, htn.1]; unfold tt; omega
        (repeat (first | with_reducible refine Ops.nil ?_ | refine z_p (kk := ?_) | refine z_a (kk := ?_)))
        rw [hT]
        have hst : ct (fun q => decide (tn c q = t)) (i + 1) = ct (fun q => decide (tn c q = t)) i + if decide (tn c i = t) = true then 1 else 0 := rfl
        by_cases he : tn c i = t
        · have he' : (tn c i : Int) = t := by omega
          rw [decide_eq_true he, if_pos rfl] at hst
          skip
          refine W.condT rfl (by first | rfl | assumption | (simp only [bnf] <;> omega) | (simp only [*, bnf]; done) | fail) ?_
          (repeat (first | with_reducible refine Ops.nil ?_ | with_reducible refine W.region ?_ | refine z_p (kk := ?_) | refine z_a (kk := ?_) | with_reducible refine W.endb ?_))
          exact W.endl ⟨_, _, ⟨⟨i + 1, k2 - 1, rfl, by omega, by omega, by omega, fun h => ⟨by omega, he, by rw [Nat.add_sub_cancel]; omega⟩, hb46, rfl⟩, by omega⟩, (by repeat (first | exact trivial | refine And.intro rfl ?_))⟩
        · have he' : ¬ (tn c i : Int) = t := by omega
          rw [decide_eq_false he, if_neg (by simp)] at hst
          skip
          refine W.condF rfl (by first | rfl | assumption | (simp only [bnf] <;> omega) | (simp only [*, bnf]; done) | fail) ?_
          (repeat (first | with_reducible refine Ops.nil ?_ | with_reducible refine W.region ?_ | refine z_p (kk := ?_) | refine z_a (kk := ?_) | with_reducible refine W.skip ?_ | with_reducible refine W.endb ?_))
          exact W.endl ⟨_, _, ⟨⟨i + 1, k2, rfl, by omega, by omega, by omega, fun h => by omega, hb46, rfl⟩, by omega⟩, (by repeat (first | exact trivial | refine And.intro rfl ?_))⟩
      · have hk3 : k2 = -1 := by omega
        obtain ⟨hi1, hti, hci⟩ := hk22 hk3
        obtain ⟨p, rfl⟩ : ∃ p, i = p + 1 := ⟨i - 1, by omega⟩
        rw [Nat.add_sub_cancel] at hti hci
        (repeat (first | with_reducible refine W.seq ?_ | with_reducible refine Ops.nil ?_ | with_reducible refine W.region ?_ | refine z_p (kk := ?_) | refine z_a (kk := ?_) | refine W.exit rfl ?_ | refine z_r (kk := fun _ _ _ _ => ?_)))
        rename_i Ai mi _ hsi
        have e1 : ((p + 1 : Nat) : Int) - 1 = (p : Int) := by omega
        rw [e1, hrow] at hsi
        rw [e1, hrow]
        refine W.fret rfl ⟨⟨p, by omega, ?_, Sl.below hsi hb15⟩, hb05⟩
        have hpl : p < (allL c.length).length := by omega
        have htp := (tn_bd hC hpl).1
        unfold rank
        have r1 : ct (fun q => decide (tt c q < tt c p)) (allL c.length).length = ct (fun q => decide (tn c q < t)) (allL c.length).length := ct_congr _ (fun q hq => by
          have := (tn_bd hC hq).1
          rw [Bool.eq_iff_iff]; simp only [decide_eq_true_eq]; omega)
        have r2 : ct (fun q => decide (tt c q = tt c p)) p = ct (fun q => decide (tn c q = t)) p := ct_congr _ (fun q hq => by
          have := (tn_bd hC (show q < (allL c.length).length by omega)).1
          rw [Bool.eq_iff_iff]; simp only [decide_eq_true_eq]; omega)
        rw [r1, r2]
        omega
end Go.Proofs.Ytehjmakiljhjdaa
namespace Go.Proofs.Ytehjmakiljhjdaa
open Go Go.RowKit Go.Proofs.Ytehjmakiljhjdaa.VW
attribute [local irreducible] W Ops OrdA VW.Ord OrdX
/-- A list whose parts are told by a function. -/
theorem refItem0_c {w : World} {cv : Value} {c : List (List Int)} (hM : RowsM w cv c) (hC : Cst c) : Calls Try.prog 46 #[cv, .int .i64 0] w (Ret fun r w' => SlI w' r (firstS c c.length 0) ∧ Below w.heap.size w w') := by
  refine (Item_ref_c hM hC (k := 0) allL_pos).mono fun e w' ⟨v, he, ⟨p, h1, h2, h3⟩, hb⟩ => ⟨v, he, ?_, hb⟩
  rw [item0 h1 h2] at h3
  exact h3
theorem slm_ub {c : List (List Int)} {i j : Nat} : ∀ m, slm c i j m ≤ 14000
  | 0 => Int.le_refl _
  | m + 1 => by
    have := slm_ub (c := c) (i := i) (j := j) m
    simp only [slm]
    split <;> omega
set_option maxHeartbeats 4000000 in
theorem refSlack_c {w : World} {cv : Value} {c : List (List Int)} (hM : RowsM w cv c) (hC : Cst c) : Calls Try.prog 34 #[cv] w (Ret fun r w' => ∃ cvs, RW w w' r cvs c.length (fun i => fl c.length fun j => slm c i j (allL c.length).length)) := by
  have hn7 := hC.n7
  have hL := levL_lt (n := c.length) (i := c.length) hn7 hn7
  have hpos := allL_pos (n := c.length)
  change (allL c.length).length ≤ 823543 at hL
  have hmB := minB hC
  obtain ⟨Ac, cc, rfl⟩ := hM.sl
  refine calls_W (vs := [_]) Try.func34 rfl (by kernel_rfl) rfl ?_
  (repeat (first | with_reducible refine W.seq ?_ | with_reducible refine Ops.nil ?_ | with_reducible refine W.region ?_ | refine z_p (kk := ?_) | refine z_l (kk := ?_)))
  refine Ops.call rfl rfl rfl rfl rfl (All_c hn7) (fun r w1 hR => ?_)
  obtain ⟨lvs, hR⟩ := hR
  have hb1 := hR.o.bel
  have hML := hR.rowsM
  obtain ⟨AL, cL, rfl⟩ := hML.sl
  have hrow : ∀ i : Nat, row (allL c.length) i = LL c i := fun i => by simp [row]
  have hasg : ∀ i : Nat, i < (allL c.length).length → Asg (row (allL c.length) i) c.length := fun i hi => by rw [hrow]; exact all_asg hi
  (repeat (first | with_reducible refine W.seq ?_ | with_reducible refine Ops.nil ?_ | with_reducible refine W.region ?_ | refine z_p (kk := ?_)))
  refine Ops.call rfl rfl rfl rfl rfl (refItem0_c (hM.below hb1) hC) (fun r w2 hR2 => ?_)
  obtain ⟨hF2, hb2⟩ := hR2
  have hFA := firstS_Asg (c := c)
  skip
  refine Ops.call rfl rfl rfl rfl rfl (refTotal_c (hM.below (Below.via hb1 hb2)) hC hF2 (fun q hq => (hFA.2 q hq).1) (by rw [hFA.1]; exact Nat.le_refl _)) (fun r w3 hR3 => ?_)
  obtain ⟨rfl, hb3⟩ := hR3
  rw [hFA.1, first_tot]
  have hb13 := Below.via hb2 hb3
  (repeat (first | with_reducible refine W.seq ?_ | with_reducible refine Ops.nil ?_ | with_reducible refine W.region ?_ | refine z_p (kk := ?_) | with_reducible refine W.block ?_))
  refine W.loop (fun m ρ w4 => ∃ (i : Nat) (ov : Value) (cvs : List Value), m = c.length - i ∧ i ≤ c.length ∧ ρ = [(0, .slice Ac c.length cc), (3, .int .i64 c.length), (4, .slice AL (allL c.length).length cL), (5, .int .i64 (minT c)), (6, ov), (7, .int .i64 i)] ∧ RW w1 w4 ov cvs i (fun i => fl c.length fun j => slm c i j (allL c.length).length))
    ⟨_, _, ⟨0, _, _, rfl, Nat.zero_le _, rfl, RW.nil hb13⟩, (by repeat (first | exact trivial | refine And.intro rfl ?_))⟩ ?_
  rintro m ρ w4 ⟨i, ov, cvs, rfl, hi, rfl, hO⟩
  have hb4 := hO.o.bel
  have hb04 := Below.via hb1 hb4
  (repeat (first | with_reducible refine W.seq ?_ | with_reducible refine Ops.nil ?_ | with_reducible refine W.region ?_ | refine z_p (kk := ?_)))
  (first | refine W.condD rfl (fun hc => ?_) (fun hc => ?_) | refine W.condE rfl (fun hc => ?_) (fun hc => ?_) | refine W.condN rfl (fun hc => ?_) (fun hc => ?_) | refine W.cond rfl (fun hc => ?_) (fun hc => ?_))
  · have hil : i < c.length := by omega
    (repeat (first | with_reducible refine W.seq ?_ | with_reducible refine W.region ?_ | refine z_p (kk := ?_) | with_reducible refine W.skip ?_ | with_reducible refine W.block ?_))
    refine Ops.mkO (Value.int .i64) 0 (w0 := w4) rfl rfl rfl rfl rfl rfl rfl rfl rfl (by omega) rfl (Below.refl _ _) (fun w5 rb hR5 k5 hr5 => ?_)
    rw [fl_zero] at hR5
    (repeat (first | with_reducible refine W.seq ?_ | with_reducible refine Ops.nil ?_ | with_reducible refine W.region ?_ | refine z_p (kk := ?_) | with_reducible refine W.block ?_))
    refine W.loop (fun m ρ w6 => ∃ (j : Nat) (f : Nat → Int), m = c.length - j ∧ j ≤ c.length ∧ ρ = [(0, .slice Ac c.length cc), (3, .int .i64 c.length), (4, .slice AL (allL c.length).length cL), (5, .int .i64 (minT c)), (6, ov), (7, .int .i64 i), (8, .slice (some ⟨rb, 0, none⟩) c.length c.length), (9, .int .i64 j)] ∧ OI 3 (Value.int .i64) w4 w6 (.slice (some ⟨rb, 0, none⟩) c.length c.length) (fl c.length f) ∧ ∀ q, q < j → f q = slm c i q (allL c.length).length)
      ⟨_, _, ⟨0, _, rfl, Nat.zero_le _, rfl, hR5, fun q hq => by omega⟩, (by repeat (first | exact trivial | refine And.intro rfl ?_))⟩ ?_
    rintro m ρ w6 ⟨j, f, rfl, hj, rfl, hR6, hf⟩
    have hb6 := hR6.bel
    have hb16 := Below.via hb4 hb6
    have hb06 := Below.via hb1 hb16
    (repeat (first | with_reducible refine W.seq ?_ | with_reducible refine Ops.nil ?_ | with_reducible refine W.region ?_ | refine z_p (kk := ?_)))
    (first | refine W.condD rfl (fun hc => ?_) (fun hc => ?_) | refine W.condE rfl (fun hc => ?_) (fun hc => ?_) | refine W.condN rfl (fun hc => ?_) (fun hc => ?_) | refine W.cond rfl (fun hc => ?_) (fun hc => ?_))
    · have hjl : j < c.length := by omega
      (repeat (first | with_reducible refine W.seq ?_ | with_reducible refine W.region ?_ | refine z_p (kk := ?_) | with_reducible refine W.skip ?_ | with_reducible refine W.block ?_))
      refine Ops.wrO (enc := Value.int .i64) (u := 14000) rfl rfl rfl rfl rfl rfl rfl rfl rfl rfl rfl rfl (by simp) rfl hR6 (by rw [fl_len]; omega) (fun w7 p hR7 k7 hs7 => ?_)
      rw [fl_set] at hR7
      (repeat (first | with_reducible refine W.seq ?_ | with_reducible refine Ops.nil ?_ | with_reducible refine W.region ?_ | refine z_p (kk := ?_) | with_reducible refine W.block ?_))
      refine W.loop (fun m ρ w8 => ∃ (k : Nat) (f : Nat → Int), m = (allL c.length).length - k ∧ k ≤ (allL c.length).length ∧ ρ = [(0, .slice Ac c.length cc), (3, .int .i64 c.length), (4, .slice AL (allL c.length).length cL), (5, .int .i64 (minT c)), (6, ov), (7, .int .i64 i), (8, .slice (some ⟨rb, 0, none⟩) c.length c.length), (9, .int .i64 j), (10, .int .i64 k)] ∧ OI 3 (Value.int .i64) w4 w8 (.slice (some ⟨rb, 0, none⟩) c.length c.length) (fl c.length f) ∧ (∀ q, q < j → f q = slm c i q (allL c.length).length) ∧ f j = slm c i j k)
        ⟨_, _, ⟨0, _, rfl, Nat.zero_le _, rfl, hR7, fun q hq => by rw [if_neg (by omega)]; exact hf q hq, by rw [if_pos rfl]; rfl⟩, (by repeat (first | exact trivial | refine And.intro rfl ?_))⟩ ?_
      clear hR7 hR6 hf f
      rintro m ρ w8 ⟨k, f, rfl, hk, rfl, hR8, hf, hfj⟩
      have hb8 := hR8.bel
      have hb18 := Below.via hb4 hb8
      have hb08 := Below.via hb1 hb18
      (repeat (first | with_reducible refine W.seq ?_ | with_reducible refine Ops.nil ?_ | with_reducible refine W.region ?_ | refine z_p (kk := ?_) | refine z_l (kk := ?_)))
      (first | refine W.condD rfl (fun hc => ?_) (fun hc => ?_) | refine W.condE rfl (fun hc => ?_) (fun hc => ?_) | refine W.condN rfl (fun hc => ?_) (fun hc => ?_) | refine W.cond rfl (fun hc => ?_) (fun hc => ?_))
      · have hkl : k < (allL c.length).length := by omega
        have hak := hasg k hkl
        have hlk := hak.1
        have htb := totB hC hak
        (repeat (first | with_reducible refine W.seq ?_ | with_reducible refine Ops.nil ?_ | with_reducible refine W.region ?_ | refine z_p (kk := ?_) | with_reducible refine W.skip ?_ | with_reducible refine W.block ?_ | refine z_I (kk := fun _ => ?_) | refine z_r (kk := fun _ _ _ _ => ?_)))
        by_cases he : (row (allL c.length) (k : Int)).getD i 0 = j
        · refine W.condT rfl (by first | rfl | assumption | (simp only [bnf] <;> omega) | (simp only [*, bnf]; done) | fail) ?_
          skip
          refine W.ordA 16 [(0, 1), (1, 1), (2, 1), (3, 1), (4, 1), (5, 2), (6, 1), (7, 1), (8, 1), (9, 1), (10, 2), (11, 2), (12, 1), (13, 1), (14, 1), (15, 1), (16, 0)] rfl (by kernel_rfl) rfl (by kernel_rfl) (fun _ _ _ h => h) ?_
          have hcl := fl_len c.length f
          have hg := fl_get (f := f) hjl
          have hfb : f j ≤ 14000 ∧ -14000 ≤ f j := by
            rw [hfj]
            refine ⟨slm_ub k, slm_ge (by omega) _ (fun q hq _ => ?_)⟩
            have e : tt c q = totP c (LL c q) c.length := rfl
            have := totB hC (LL_asg (c := c) (show q < (allL c.length).length by omega))
            omega
          (repeat (first | refine x_p (kk := ?_) | refine x_I (kk := fun _ => ?_) | refine x_r (kk := fun _ _ _ _ => ?_)))
          refine OrdA.call rfl rfl rfl rfl rfl rfl rfl (fun w' hw' => Calls.via hw' (refTotal_c (hM.below (Below.via hb08 hw')) hC (Sl.below (by assumption) (Below.via hb18 hw')) (fun q hq => (hak.2 q hq).1) (by rw [hlk]; exact Nat.le_refl _))) ?_
          have htk : totP c (row (allL c.length) (k : Int)) (row (allL c.length) (k : Int)).length = tt c k := by rw [hlk, hrow]; rfl
          have htk2 : totP c (row (allL c.length) (k : Int)) c.length = tt c k := by rw [hrow]; rfl
          rw [htk2] at htb
          rw [htk]
          (repeat (first | refine x_p (kk := ?_) | refine x_a (kk := ?_) | refine x_m (kk := ?_)))
          refine OrdA.wrO (enc := Value.int .i64) (u := min ((fl c.length f).getD j 0) (tt c k - minT c)) rfl rfl rfl rfl rfl rfl rfl rfl rfl rfl rfl rfl rfl rfl (fun _ => rfl) rfl hR8 (fun _ h => h) (by omega) (by omega) (fun w8 w9 _ hw8 hR9 k9 hs9 => VW.Ord.nil ?_)
          rw [Int.toNat_natCast, fl_set] at hR9
          (repeat (first | with_reducible refine Ops.nil ?_ | with_reducible refine W.region ?_ | refine z_p (kk := ?_) | refine z_a (kk := ?_) | with_reducible refine W.endb ?_))
          refine W.endl ⟨_, _, ⟨⟨k + 1, _, rfl, by omega, rfl, hR9, fun q hq => by rw [if_neg (by omega)]; exact hf q hq, ?_⟩, by omega⟩, (by repeat (first | exact trivial | refine And.intro rfl ?_))⟩
          rw [if_pos rfl, hg, hfj, slm, if_pos (by rw [← hrow]; exact he)]
        · refine W.condF rfl (by first | rfl | assumption | (simp only [bnf] <;> omega) | (simp only [*, bnf]; done) | fail) ?_
          (repeat (first | with_reducible refine Ops.nil ?_ | with_reducible refine W.region ?_ | refine z_p (kk := ?_) | refine z_a (kk := ?_) | with_reducible refine W.skip ?_ | with_reducible refine W.endb ?_))
          refine W.endl ⟨_, _, ⟨⟨k + 1, f, rfl, by omega, rfl, hR8, hf, ?_⟩, by omega⟩, (by repeat (first | exact trivial | refine And.intro rfl ?_))⟩
          rw [hfj, slm, if_neg (by rw [← hrow]; exact he)]
      · have hkl : k = (allL c.length).length := by omega
        subst hkl
        (repeat (first | with_reducible refine Ops.nil ?_ | with_reducible refine W.region ?_ | refine z_p (kk := ?_) | refine z_a (kk := ?_) | with_reducible refine W.endb ?_ | refine W.exit rfl ?_))
        exact W.endl ⟨_, _, ⟨⟨j + 1, f, rfl, by omega, rfl, hR8, fun q hq => by
          by_cases e : q = j
          · rw [e]; exact hfj
          · exact hf q (by omega)⟩, by omega⟩, (by repeat (first | exact trivial | refine And.intro rfl ?_))⟩
    · have hjl : j = c.length := by omega
      subst hjl
      rw [fl_congr hf] at hR6
      have hO6 := hO.below hR6.bel
      (repeat (first | with_reducible refine W.region ?_ | refine z_p (kk := ?_) | refine W.exit rfl ?_))
      refine Ops.pushO (enc := fun v : Value => v) (u := .slice (some ⟨rb, 0, none⟩) c.length c.length) rfl rfl rfl rfl rfl rfl rfl rfl rfl rfl rfl rfl (fun _ => rfl) rfl hO6.o (by rw [hO6.len]; omega) (fun lv' p w7 hO7 k7 hn7 => ?_)
      have hO8 := hO.push hR6 hO7 k7 hn7
      (repeat (first | with_reducible refine Ops.nil ?_ | with_reducible refine W.region ?_ | refine z_p (kk := ?_) | refine z_a (kk := ?_) | with_reducible refine W.endb ?_))
      exact W.endl ⟨_, _, ⟨⟨i + 1, _, _, rfl, by omega, rfl, hO8⟩, by omega⟩, (by repeat (first | exact trivial | refine And.intro rfl ?_))⟩
  · have hil : i = c.length := by omega
    subst hil
    (repeat (first | with_reducible refine W.seq ?_ | with_reducible refine Ops.nil ?_ | with_reducible refine W.region ?_ | refine z_p (kk := ?_) | refine W.exit rfl ?_))
    exact W.fret rfl ⟨cvs, RW.up hO hb1⟩
end Go.Proofs.Ytehjmakiljhjdaa
