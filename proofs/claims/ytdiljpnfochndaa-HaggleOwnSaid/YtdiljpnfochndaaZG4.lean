/- A part of the walk: what this seat's statements share. -/
import Derived.Test.YtdiljpnfochndaaZG3
import Derived.Test.YtdiljpnfochndaaZG1
import Derived.Shelf.Sort.Plain
set_option linter.unusedVariables false
set_option linter.unusedSimpArgs false
set_option linter.unusedSectionVars false
namespace Go.Proofs.Ytdiljpnfochndaa
open Go Go.RowKit Go.Proofs.Ytdiljpnfochndaa.VW
open Go.Proofs.Ytdiljpnfochndaa.HP (Nd kid wor leafB rd TF evB)
attribute [local irreducible] W Ops
theorem atMax_c {w : World} {g : Nat} {l : List Nd} {dep : List Int} (hG : Game w g l dep) (i : Int) (h0 : 0 ≤ i) (h1 : i < dep.length) :
    Calls Try.prog 75 #[.pointer (some ⟨g, 0, none⟩), .int .i64 i] w (Ret fun v w' => v = .bool (evB dep i) ∧ w' = w) := by
  obtain ⟨tv, dv, hB, hT, hD⟩ := hG.out
  refine calls_W (vs := [_, _]) Try.func75 rfl (by kernel_rfl) rfl ?_
  (repeat (first | with_reducible refine W.seq ?_ | with_reducible refine Ops.nil ?_ | with_reducible refine W.region ?_ | refine z_p (kk := ?_) | refine z_f (kk := ?_) | refine z_d (kk := ?_)))
  refine Ops.rdS (enc := Value.int .i64) (z := (0 : Int)) rfl rfl rfl rfl rfl rfl rfl rfl rfl rfl rfl hD h0 h1 (fun p => ?_)
  refine Ops.rem rfl rfl rfl rfl rfl (by simp) ?_
  (repeat (first | with_reducible refine Ops.nil ?_ | refine z_p (kk := ?_)))
  exact W.fret rfl ⟨rfl, rfl⟩
theorem worth_c {w : World} {g : Nat} {l : List Nd} {dep : List Int} (hG : Game w g l dep) (i : Int) (h0 : 0 ≤ i) (h1 : i < l.length) :
    Calls Try.prog 60 #[.pointer (some ⟨g, 0, none⟩), .int .i64 i] w (Ret fun v w' => v = .int .i64 (wor l i) ∧ w' = w) := by
  obtain ⟨tv, dv, hB, hT, hD⟩ := hG.out
  refine calls_W (vs := [_, _]) Try.func60 rfl (by kernel_rfl) rfl ?_
  (repeat (first | with_reducible refine W.seq ?_ | with_reducible refine Ops.nil ?_ | with_reducible refine W.region ?_ | refine z_p (kk := ?_) | refine z_f (kk := ?_) | refine z_d (kk := ?_)))
  refine Ops.rdW rfl rfl rfl rfl rfl rfl rfl rfl rfl rfl rfl rfl rfl rfl rfl hT (Below.refl _ _) h0 h1 (fun p q => ?_)
  (repeat (first | with_reducible refine Ops.nil ?_ | refine z_p (kk := ?_)))
  exact W.fret rfl ⟨rfl, rfl⟩
def costV (b : Bool) : Int := if b then 1 else 1099511627776
theorem cost_c (b : Bool) (w : World) : Calls Try.prog 59 #[.bool b] w (Ret fun v w' => v = .int .i64 (costV b) ∧ w' = w) := by
  refine calls_W (vs := [_]) Try.func59 rfl (by kernel_rfl) rfl ?_
  (repeat (first | with_reducible refine W.seq ?_ | with_reducible refine Ops.nil ?_ | with_reducible refine W.region ?_ | refine z_p (kk := ?_)))
  refine W.cond rfl (fun h => ?_) (fun h => ?_)
  · (repeat (first | with_reducible refine W.seq ?_ | with_reducible refine Ops.nil ?_ | with_reducible refine W.region ?_ | refine z_p (kk := ?_)))
    exact W.fret rfl ⟨by rw [h]; rfl, rfl⟩
  · (repeat (first | with_reducible refine W.seq ?_ | with_reducible refine Ops.nil ?_ | with_reducible refine W.region ?_ | refine z_p (kk := ?_) | with_reducible refine W.skip ?_))
    exact W.fret rfl ⟨by rw [h]; rfl, rfl⟩
theorem isBound_c (b : Int) (w : World) : Calls Try.prog 56 #[.int .i64 b] w (Ret fun v w' => v = .bool (decide (-1000 ≤ b) && decide (b ≤ 1000)) ∧ w' = w) := by
  refine calls_W (vs := [_]) Try.func56 rfl (by kernel_rfl) rfl ?_
  (repeat (first | with_reducible refine W.seq ?_ | with_reducible refine Ops.nil ?_ | with_reducible refine W.region ?_ | refine z_p (kk := ?_)))
  refine Ops.callS rfl rfl rfl rfl rfl (within_c _ _ _ _) ?_
  (repeat (first | with_reducible refine Ops.nil ?_ | refine z_p (kk := ?_)))
  exact W.fret rfl ⟨rfl, rfl⟩
/-- Variables of one cell that a closure has taken. -/
def Box (w : World) (b : Nat) (v : Value) (t : Nat) : Prop := Blk w b #[v] t
theorem proof1_c {w : World} {g bg bb : Nat} {l : List Nd} {dep : List Int} {b : Int} (hG : Game w g l dep) (h1 : Blk w bg #[.pointer (some ⟨g, 0, none⟩)] 69) (h2 : Blk w bb #[.int .i64 b] 3) (i : Int) (h0 : 0 ≤ i) (hi : i < l.length) :
    Calls Try.prog 58 #[.int .i64 i, .pointer (some ⟨bg, 0, none⟩), .pointer (some ⟨bb, 0, none⟩)] w (Ret fun v w' => v = .int .i64 (costV (decide (b ≤ wor l i))) ∧ Below w.heap.size w w') := by
  refine calls_W (vs := [_, _, _]) Try.func58 rfl (by kernel_rfl) rfl ?_
  (repeat (first | with_reducible refine W.seq ?_ | with_reducible refine Ops.nil ?_ | with_reducible refine W.region ?_ | refine z_p (kk := ?_)))
  refine W.still' rfl (by kernel_rfl) (fun w1 k1 _ => ?_)
  have h1' := h1.kp k1 (fun e => e)
  have h2' := h2.kp k1 (fun e => e)
  have hG' := hG.below (k1.below (Nat.le_refl _) (fun _ _ e => e))
  (repeat (first | refine z_p (kk := ?_) | refine z_d (kk := ?_)))
  refine Ops.callS rfl rfl rfl rfl rfl (worth_c hG' i h0 hi) ?_
  (repeat (first | refine z_p (kk := ?_) | refine z_d (kk := ?_)))
  refine Ops.callS rfl rfl rfl rfl rfl (cost_c _ _) ?_
  (repeat (first | refine z_p (kk := ?_)))
  refine Ops.nilS rfl ?_
  (repeat (first | with_reducible refine Ops.nil ?_))
  exact W.fret rfl ⟨rfl, k1.below (Nat.le_refl _) (fun _ _ e => e)⟩
theorem refute1_c {w : World} {g bg bb : Nat} {l : List Nd} {dep : List Int} {b : Int} (hG : Game w g l dep) (h1 : Blk w bg #[.pointer (some ⟨g, 0, none⟩)] 69) (h2 : Blk w bb #[.int .i64 b] 3) (i : Int) (h0 : 0 ≤ i) (hi : i < l.length) :
    Calls Try.prog 61 #[.int .i64 i, .pointer (some ⟨bg, 0, none⟩), .pointer (some ⟨bb, 0, none⟩)] w (Ret fun v w' => v = .int .i64 (costV (decide (wor l i ≤ b))) ∧ Below w.heap.size w w') := by
  refine calls_W (vs := [_, _, _]) Try.func61 rfl (by kernel_rfl) rfl ?_
  (repeat (first | with_reducible refine W.seq ?_ | with_reducible refine Ops.nil ?_ | with_reducible refine W.region ?_ | refine z_p (kk := ?_)))
  refine W.still' rfl (by kernel_rfl) (fun w1 k1 _ => ?_)
  have h1' := h1.kp k1 (fun e => e)
  have h2' := h2.kp k1 (fun e => e)
  have hG' := hG.below (k1.below (Nat.le_refl _) (fun _ _ e => e))
  (repeat (first | refine z_p (kk := ?_) | refine z_d (kk := ?_)))
  refine Ops.callS rfl rfl rfl rfl rfl (worth_c hG' i h0 hi) ?_
  (repeat (first | refine z_p (kk := ?_) | refine z_d (kk := ?_)))
  refine Ops.callS rfl rfl rfl rfl rfl (cost_c _ _) ?_
  (repeat (first | refine z_p (kk := ?_)))
  refine Ops.nilS rfl ?_
  (repeat (first | with_reducible refine Ops.nil ?_))
  exact W.fret rfl ⟨rfl, k1.below (Nat.le_refl _) (fun _ _ e => e)⟩
/-- The first child with the value of the node; -1: none. -/
def bestM (vs : List Int) (x : Int) : List Int → Int
  | [] => -1
  | c :: r => if rd vs c = x then c else bestM vs x r
theorem best_c {w : World} {g : Nat} {l : List Nd} {dep vs : List Int} {v : Value} (hG : Game w g l dep) (hv : SlI w v vs) (hvl : vs.length = l.length) (i : Int) (h0 : 0 ≤ i) (h1 : i < l.length)
    (hk : ∀ j, j < (kid l i).length → 0 ≤ (kid l i).getD j 0 ∧ (kid l i).getD j 0 < l.length) :
    Calls Try.prog 76 #[.pointer (some ⟨g, 0, none⟩), v, .int .i64 i] w (Ret fun r w' => r = .int .i64 (bestM vs (rd vs i) (kid l i)) ∧ Below w.heap.size w w') := by
  obtain ⟨tv, dv, hB, hT, hD⟩ := hG.out
  refine calls_W (vs := [_, _, _]) Try.func76 rfl (by kernel_rfl) rfl ?_
  (repeat (first | with_reducible refine W.seq ?_ | with_reducible refine Ops.nil ?_ | with_reducible refine W.region ?_ | refine z_p (kk := ?_) | refine z_f (kk := ?_) | refine z_d (kk := ?_)))
  refine Ops.rdK rfl rfl rfl rfl rfl rfl rfl rfl rfl rfl rfl rfl rfl rfl rfl hT (Below.refl _ _) h0 h1 (fun cv p q hcv => ?_)
  have hcl := Sl.len hcv
  obtain ⟨A, c, rfl⟩ := Sl.sl hcv
  (repeat (first | with_reducible refine Ops.nil ?_ | refine z_p (kk := ?_) | with_reducible refine W.block ?_ | refine z_l (kk := ?_)))
  refine W.loop (fun m ρ w1 => ∃ j : Nat, m = (kid l i).length - j ∧ j ≤ (kid l i).length ∧ ρ = [(1, v), (2, .int .i64 i), (16, .slice A (kid l i).length c), (17, .int .i64 (kid l i).length), (18, .int .i64 j)] ∧ Below w.heap.size w w1 ∧ bestM vs (rd vs i) ((kid l i).drop j) = bestM vs (rd vs i) (kid l i))
    ⟨_, _, ⟨0, rfl, Nat.zero_le _, rfl, Below.refl _ _, rfl⟩, (by repeat (first | exact trivial | refine And.intro rfl ?_))⟩ ?_
  rintro m ρ w1 ⟨j, rfl, hj, rfl, hb, hR⟩
  (repeat (first | with_reducible refine W.seq ?_ | with_reducible refine Ops.nil ?_ | with_reducible refine W.region ?_ | refine z_p (kk := ?_)))
  refine W.cond rfl (fun hc => ?_) (fun hc => ?_)
  · have hlt : j < (kid l i).length := by simp at hc; omega
    (repeat (first | with_reducible refine W.seq ?_ | with_reducible refine W.region ?_ | with_reducible refine W.skip ?_ | with_reducible refine W.block ?_))
    refine Ops.rdS (enc := Value.int .i64) (z := (0 : Int)) rfl rfl rfl rfl rfl rfl rfl rfl rfl rfl rfl (Sl.below hcv hb) (by omega) (by omega) (fun p => ?_)
    simp only [Int.toNat_natCast]
    rw [Go.Proofs.Ytdiljpnfochndaa.HP.drop_get _ _ (0 : Int) hlt] at hR
    have hkj := hk j hlt
    generalize (kid l i).getD j 0 = cj at *
    (repeat (first | with_reducible refine W.seq ?_ | with_reducible refine Ops.nil ?_ | refine z_p (kk := ?_)))
    refine W.still' rfl (by kernel_rfl) (fun w2 k2 _ => ?_)
    have hb2 : Below w.heap.size w w2 := Below.at_ hb k2 (fun _ e => e.elim)
    (repeat (first | refine z_p (kk := ?_)))
    refine Ops.rdS (enc := Value.int .i64) (z := (0 : Int)) rfl rfl rfl rfl rfl rfl rfl rfl rfl rfl rfl (Sl.below hv hb2) (by omega) (by omega) (fun p => ?_)
    (repeat (first | refine z_p (kk := ?_)))
    refine Ops.rdS (enc := Value.int .i64) (z := (0 : Int)) rfl rfl rfl rfl rfl rfl rfl rfl rfl rfl rfl (Sl.below hv hb2) (by omega) (by omega) (fun p => ?_)
    (repeat (first | refine z_p (kk := ?_)))
    refine Ops.nilS rfl ?_
    (repeat (first | with_reducible refine Ops.nil ?_))
    simp only [bestM] at hR
    refine W.cond rfl (fun hc => ?_) (fun hc => ?_)
    · (repeat (first | with_reducible refine W.seq ?_ | with_reducible refine Ops.nil ?_ | with_reducible refine W.region ?_ | refine z_p (kk := ?_)))
      rw [if_pos (by simpa [rd] using hc)] at hR
      exact W.fret rfl ⟨by rw [← hR]; rfl, hb2⟩
    · rw [if_neg (by simpa [rd] using hc)] at hR
      (repeat (first | with_reducible refine Ops.nil ?_ | with_reducible refine W.region ?_ | refine z_p (kk := ?_) | refine z_a (kk := ?_) | with_reducible refine W.skip ?_ | with_reducible refine W.endb ?_))
      exact W.endl ⟨_, _, ⟨⟨j + 1, rfl, by omega, rfl, hb2, hR⟩, by omega⟩, (by repeat (first | exact trivial | refine And.intro rfl ?_))⟩
  · have hlt : j = (kid l i).length := by simp at hc; omega
    subst hlt
    rw [List.drop_length] at hR
    (repeat (first | with_reducible refine W.seq ?_ | with_reducible refine Ops.nil ?_ | with_reducible refine W.region ?_ | refine z_p (kk := ?_) | refine W.exit rfl ?_))
    exact W.fret rfl ⟨by rw [← hR]; rfl, hb⟩
end Go.Proofs.Ytdiljpnfochndaa
namespace Go.Proofs.Ytdiljpnfochndaa
open Go Go.RowKit Go.Proofs.Ytdiljpnfochndaa.VW
open Go.Proofs.Ytdiljpnfochndaa.HP (Nd kid wor leafB rd evB TF maxL minL NV ValP maxL_take minL_take maxL_one minL_one)
attribute [local irreducible] W Ops
theorem max_c {w : World} {v : Value} {xs : List Int} (hv : SlI w v xs) (hp : 0 < xs.length) : Calls Try.prog 92 #[v] w (Ret fun r w' => r = .int .i64 (maxL xs) ∧ w' = w) := by
  have hl := Sl.len hv
  have hv0 := hv
  obtain ⟨A, c, rfl⟩ := Sl.sl hv
  refine calls_W (vs := [_]) Try.func92 rfl (by kernel_rfl) rfl ?_
  (repeat (first | with_reducible refine W.seq ?_ | with_reducible refine Ops.nil ?_ | with_reducible refine W.region ?_ | refine z_p (kk := ?_) | refine z_l (kk := ?_)))
  refine W.cond rfl (fun hc => ?_) (fun hc => ?_)
  · simp at hc; omega
  (repeat (first | with_reducible refine W.seq ?_ | with_reducible refine W.region ?_ | refine z_p (kk := ?_) | with_reducible refine W.skip ?_))
  refine Ops.rdS (enc := Value.int .i64) (z := (0 : Int)) rfl rfl rfl rfl rfl rfl rfl rfl rfl rfl rfl hv0 (by omega) (by omega) (fun p => ?_)
  (repeat (first | with_reducible refine W.seq ?_ | with_reducible refine Ops.nil ?_ | with_reducible refine W.region ?_ | refine z_p (kk := ?_) | with_reducible refine W.block ?_))
  refine W.loop (fun m ρ w1 => ∃ j : Nat, m = xs.length - j ∧ 1 ≤ j ∧ j ≤ xs.length ∧ ρ = [(0, .slice A xs.length c), (3, .int .i64 (maxL (xs.take j))), (4, .int .i64 j)] ∧ w1 = w)
    ⟨_, _, ⟨1, rfl, Nat.le_refl _, hp, rfl, rfl⟩, ⟨rfl, by rw [maxL_one xs hp]; rfl, rfl, trivial⟩⟩ ?_
  rintro m ρ w1 ⟨j, rfl, hj1, hj, rfl, rfl⟩
  (repeat (first | with_reducible refine W.seq ?_ | with_reducible refine Ops.nil ?_ | with_reducible refine W.region ?_ | refine z_p (kk := ?_) | refine z_l (kk := ?_)))
  refine W.cond rfl (fun hc => ?_) (fun hc => ?_)
  · have hlt : j < xs.length := by simp at hc; omega
    (repeat (first | with_reducible refine W.seq ?_ | with_reducible refine W.region ?_ | refine z_p (kk := ?_) | with_reducible refine W.skip ?_ | with_reducible refine W.block ?_))
    refine Ops.rdS (enc := Value.int .i64) (z := (0 : Int)) rfl rfl rfl rfl rfl rfl rfl rfl rfl rfl rfl hv0 (by omega) (by omega) (fun p => ?_)
    (repeat (first | with_reducible refine Ops.nil ?_ | with_reducible refine W.region ?_ | refine z_p (kk := ?_) | refine z_a (kk := ?_) | with_reducible refine W.endb ?_ | refine z_M (kk := ?_)))
    simp only [Int.toNat_natCast]
    exact W.endl ⟨_, _, ⟨⟨j + 1, rfl, by omega, by omega, rfl, rfl⟩, by omega⟩, ⟨rfl, by rw [maxL_take xs j hj1 hlt]; rfl, rfl, trivial⟩⟩
  · have hlt : j = xs.length := by simp at hc; omega
    subst hlt
    (repeat (first | with_reducible refine W.seq ?_ | with_reducible refine Ops.nil ?_ | with_reducible refine W.region ?_ | refine z_p (kk := ?_) | refine W.exit rfl ?_))
    exact W.fret rfl ⟨by rw [List.take_length]; rfl, rfl⟩
theorem min_c {w : World} {v : Value} {xs : List Int} (hv : SlI w v xs) (hp : 0 < xs.length) : Calls Try.prog 93 #[v] w (Ret fun r w' => r = .int .i64 (minL xs) ∧ w' = w) := by
  have hl := Sl.len hv
  have hv0 := hv
  obtain ⟨A, c, rfl⟩ := Sl.sl hv
  refine calls_W (vs := [_]) Try.func93 rfl (by kernel_rfl) rfl ?_
  (repeat (first | with_reducible refine W.seq ?_ | with_reducible refine Ops.nil ?_ | with_reducible refine W.region ?_ | refine z_p (kk := ?_) | refine z_l (kk := ?_)))
  refine W.cond rfl (fun hc => ?_) (fun hc => ?_)
  · simp at hc; omega
  (repeat (first | with_reducible refine W.seq ?_ | with_reducible refine W.region ?_ | refine z_p (kk := ?_) | with_reducible refine W.skip ?_))
  refine Ops.rdS (enc := Value.int .i64) (z := (0 : Int)) rfl rfl rfl rfl rfl rfl rfl rfl rfl rfl rfl hv0 (by omega) (by omega) (fun p => ?_)
  (repeat (first | with_reducible refine W.seq ?_ | with_reducible refine Ops.nil ?_ | with_reducible refine W.region ?_ | refine z_p (kk := ?_) | with_reducible refine W.block ?_))
  refine W.loop (fun m ρ w1 => ∃ j : Nat, m = xs.length - j ∧ 1 ≤ j ∧ j ≤ xs.length ∧ ρ = [(0, .slice A xs.length c), (3, .int .i64 (minL (xs.take j))), (4, .int .i64 j)] ∧ w1 = w)
    ⟨_, _, ⟨1, rfl, Nat.le_refl _, hp, rfl, rfl⟩, ⟨rfl, by rw [minL_one xs hp]; rfl, rfl, trivial⟩⟩ ?_
  rintro m ρ w1 ⟨j, rfl, hj1, hj, rfl, rfl⟩
  (repeat (first | with_reducible refine W.seq ?_ | with_reducible refine Ops.nil ?_ | with_reducible refine W.region ?_ | refine z_p (kk := ?_) | refine z_l (kk := ?_)))
  refine W.cond rfl (fun hc => ?_) (fun hc => ?_)
  · have hlt : j < xs.length := by simp at hc; omega
    (repeat (first | with_reducible refine W.seq ?_ | with_reducible refine W.region ?_ | refine z_p (kk := ?_) | with_reducible refine W.skip ?_ | with_reducible refine W.block ?_))
    refine Ops.rdS (enc := Value.int .i64) (z := (0 : Int)) rfl rfl rfl rfl rfl rfl rfl rfl rfl rfl rfl hv0 (by omega) (by omega) (fun p => ?_)
    (repeat (first | with_reducible refine Ops.nil ?_ | with_reducible refine W.region ?_ | refine z_p (kk := ?_) | refine z_a (kk := ?_) | with_reducible refine W.endb ?_ | refine z_m (kk := ?_)))
    simp only [Int.toNat_natCast]
    exact W.endl ⟨_, _, ⟨⟨j + 1, rfl, by omega, by omega, rfl, rfl⟩, by omega⟩, ⟨rfl, by rw [minL_take xs j hj1 hlt]; rfl, rfl, trivial⟩⟩
  · have hlt : j = xs.length := by simp at hc; omega
    subst hlt
    (repeat (first | with_reducible refine W.seq ?_ | with_reducible refine Ops.nil ?_ | with_reducible refine W.region ?_ | refine z_p (kk := ?_) | refine W.exit rfl ?_))
    exact W.fret rfl ⟨by rw [List.take_length]; rfl, rfl⟩
/-- A function value from int to int that only reads. -/
structure Clo (w : World) (fv : Value) (wf : Int → Int) (ok : Int → Prop) : Prop where
  out : ∃ (f : Nat) (first cap : List Value), fv = .func (.func f) first.toArray cap.toArray ∧ memB (Fns.L Try.prog) f = true ∧
    ∀ i w', Below w.heap.size w w' → ok i → Calls Try.prog f (app3 first [.int .i64 i] cap).toArray w' (Ret fun v w'' => v = .int .i64 (wf i) ∧ Below w'.heap.size w' w'')
/-- What a loop that fills a slice of its own keeps. -/
structure FInv (w0 w : World) (ov : Value) (os : List Int) : Prop where
  bel : Below w0.heap.size w0 w
  own : w.ownsRow 0 3 1 ov os.length (os.map (Value.int .i64))
  ge : ∀ k, ov.ownBlock = some k → w0.heap.size ≤ k
theorem FInv.kp {w0 w w' : World} {ov : Value} {os : List Int} {S : Nat → Prop} (h : FInv w0 w ov os) (k : Kp S w w') (hs : ∀ i, S i → w0.heap.size ≤ i ∧ ov.ownBlock ≠ some i) : FInv w0 w' ov os :=
  ⟨Below.at_ h.bel k (fun i hi => (hs i hi).1), own_kp h.own k (fun i hi e => (hs i e).2 hi), h.ge⟩
theorem FInv.new {w0 w w' : World} {ov : Value} {os : List Int} {S : Nat → Prop} (h : FInv w0 w ov os) (k : Kp S w w') (hs : ∀ i, S i → w.heap.size ≤ i) : FInv w0 w' ov os :=
  h.kp k fun i hi => ⟨by have := h.bel.size; have := hs i hi; omega, fun e => by have := (h.own.lt i e).2; have := hs i hi; omega⟩
theorem FInv.wr {w0 w w' : World} {ov : Value} {os : List Int} {m q : Nat} {x : Int} (h : FInv w0 w ov os) (hm : m = os.length) (hown : w'.ownsRow 0 3 1 ov m ((os.map (Value.int .i64)).set q (.int .i64 x))) (k : Kp (fun b => ov.ownBlock = some b) w w') : FInv w0 w' ov (os.set q x) :=
  ⟨Below.at_ h.bel k (fun i hi => h.ge i hi), by rw [List.map_set, List.length_set, ← hm]; exact hown, h.ge⟩
theorem FInv.push {w0 w w' : World} {lv lv' : Value} {ls : List Int} {x : Int} (h : FInv w0 w lv ls) (hown : w'.ownsRow 0 3 1 lv' (ls.length + 1) (ls.map (Value.int .i64) ++ [.int .i64 x])) (k : Kp (fun b => lv.ownBlock = some b) w w')
    (hn : ∀ i, lv'.ownBlock = some i → lv.ownBlock = some i ∨ w.heap.size ≤ i) : FInv w0 w' lv' (ls ++ [x]) :=
  ⟨Below.at_ h.bel k (fun i hi => h.ge i hi), by simpa using hown, fun i hi => by rcases hn i hi with e | e; exact h.ge i e; have := h.bel.size; omega⟩
theorem FInv.nil {w0 w : World} (h : Below w0.heap.size w0 w) : FInv w0 w (.slice none 0 0) [] := ⟨h, World.ownsRow_nil w 0 3 1, fun k hk => by simp [Value.ownBlock] at hk⟩
theorem FInv.sl {w0 w : World} {ov : Value} {os : List Int} (h : FInv w0 w ov os) : SlI w ov os := own_sl (z := (0 : Int)) h.own
set_option maxRecDepth 100000 in
theorem values_c {w : World} {g : Nat} {l : List Nd} {dep : List Int} {fv : Value} {wf : Int → Int} (hG : Game w g l dep) (hT : TF l dep) (hf : Clo w fv wf (fun i => 0 ≤ i ∧ i < l.length ∧ leafB l i = true)) :
    Calls Try.prog 69 #[.pointer (some ⟨g, 0, none⟩), fv] w (Ret fun r w' => ∃ vs, ValP l dep wf vs ∧ FInv w w' r vs) := by
  obtain ⟨tv, dv, hB, hTr, hD⟩ := hG.out
  obtain ⟨At, ct, rfl⟩ := hTr.sl
  obtain ⟨f, first, cap, rfl, hfm, hfc⟩ := hf.out
  have hn := hT.n60
  refine calls_W (vs := [_, _]) Try.func69 rfl (by kernel_rfl) rfl ?_
  (repeat (first | with_reducible refine W.seq ?_ | with_reducible refine Ops.nil ?_ | with_reducible refine W.region ?_ | refine z_p (kk := ?_) | refine z_l (kk := ?_) | refine z_f (kk := ?_) | refine z_d (kk := ?_)))
  refine Ops.mkS rfl rfl rfl rfl rfl rfl rfl rfl rfl (by omega) (by simp; omega) (fun w1 dr hdr k1 hdl hown => ?_)
  simp only [Int.toNat_natCast] at hown ⊢
  rw [show l.length * 1 = l.length from Nat.mul_one _, madeCells_one rfl] at hown
  have hI0 : FInv w w1 (.slice (some ⟨dr, 0, none⟩) l.length l.length) (List.replicate l.length 0) := by
    refine ⟨k1.below (Nat.le_refl _) (fun _ _ e => e), by simpa using hown, fun k hk => ?_⟩
    simp [Value.ownBlock] at hk
    omega
  have hB1 := hB.kp k1 (fun e => e)
  (repeat (first | with_reducible refine W.seq ?_ | with_reducible refine Ops.nil ?_ | with_reducible refine W.region ?_ | refine z_p (kk := ?_) | refine z_a (kk := ?_) | with_reducible refine W.block ?_ | refine z_l (kk := ?_) | refine z_f (kk := ?_) | refine z_d (kk := ?_)))
  refine W.loop (fun m ρ w2 => ∃ (os : List Int), m ≤ l.length ∧ ρ = [(0, .pointer (some ⟨g, 0, none⟩)), (1, .func (.func f) first.toArray cap.toArray), (5, .slice (some ⟨dr, 0, none⟩) l.length l.length), (6, .int .i64 ((m : Int) - 1))] ∧
      FInv w w2 (.slice (some ⟨dr, 0, none⟩) l.length l.length) os ∧ os.length = l.length ∧ ∀ j : Nat, m ≤ j → j < l.length → os.getD j 0 = NV l dep wf os j)
    ⟨l.length, _, ⟨_, Nat.le_refl _, rfl, hI0, by simp, fun j h1 h2 => by omega⟩, (by repeat (first | exact trivial | refine And.intro rfl ?_))⟩ ?_
  rintro m ρ w2 ⟨os, hm, rfl, hI, hol, hval⟩
  have hG2 := hG.below hI.bel
  obtain ⟨tv2, dv2, hB2, hTr2, hD2⟩ := hG2.out
  (repeat (first | with_reducible refine W.seq ?_ | with_reducible refine Ops.nil ?_ | with_reducible refine W.region ?_ | refine z_p (kk := ?_)))
  refine W.cond rfl (fun hc => ?_) (fun hc => ?_)
  · obtain ⟨q, rfl⟩ : ∃ q, m = q + 1 := ⟨m - 1, by simp at hc; omega⟩
    have e1 : ((q + 1 : Nat) : Int) - 1 = q := by omega
    rw [e1]
    (repeat (first | with_reducible refine W.seq ?_ | with_reducible refine W.region ?_ | refine z_p (kk := ?_) | with_reducible refine W.skip ?_ | with_reducible refine W.block ?_))
    refine Ops.callS rfl rfl rfl rfl rfl (isLeaf_c hG2 q (by omega) (by omega)) ?_
    (repeat (first | with_reducible refine Ops.nil ?_))
    refine W.cond rfl (fun hlf => ?_) (fun hlf => ?_)
    · (repeat (first | with_reducible refine W.seq ?_ | with_reducible refine W.region ?_ | refine z_p (kk := ?_)))
      refine Ops.call rfl rfl rfl rfl hfm (hfc q w2 hI.bel ⟨by omega, by omega, hlf⟩) (fun v w3 hR => ?_)
      obtain ⟨rfl, hb3⟩ := hR
      have hI3 := hI.new (Kp.of_below (S := fun _ => False) hb3) (fun _ e => e.elim)
      refine Ops.wrS rfl rfl rfl rfl rfl rfl rfl rfl rfl rfl rfl rfl (by simp) rfl hI3.own (by omega) (by omega) (fun w4 p hown4 k4 _ => ?_)
      have hI4 := hI3.wr (by omega) hown4 k4
      simp only [Int.toNat_natCast] at hI4
      (repeat (first | with_reducible refine Ops.nil ?_ | with_reducible refine W.region ?_ | refine z_p (kk := ?_) | refine z_a (kk := ?_) | refine W.exit rfl ?_))
      exact W.endl ⟨q, _, ⟨⟨_, by omega, rfl, hI4, by simpa using hol, Go.Proofs.Ytdiljpnfochndaa.HP.val_set hT (by omega) hol (by simp [NV, hlf]) hval⟩, by omega⟩, (by repeat (first | exact trivial | refine And.intro rfl ?_))⟩
    · have hkl := hT.klen q (by omega)
      (repeat (first | with_reducible refine W.seq ?_ | with_reducible refine Ops.nil ?_ | with_reducible refine W.region ?_ | refine z_p (kk := ?_) | with_reducible refine W.skip ?_ | refine z_f (kk := ?_) | refine z_d (kk := ?_)))
      refine Ops.rdK rfl rfl rfl rfl rfl rfl rfl rfl rfl rfl rfl rfl rfl rfl rfl hTr2 (Below.refl _ _) (by omega) (by omega) (fun cv p q' hcv => ?_)
      obtain ⟨Ac, cc, rfl⟩ := Sl.sl hcv
      have hbase := hI.bel
      (repeat (first | with_reducible refine Ops.nil ?_ | refine z_p (kk := ?_) | with_reducible refine W.block ?_ | refine z_l (kk := ?_)))
      refine W.loop (fun m ρ w3 => ∃ (j : Nat) (lv : Value), m = (kid l q).length - j ∧ j ≤ (kid l q).length ∧ ρ = [(0, .pointer (some ⟨g, 0, none⟩)), (1, .func (.func f) first.toArray cap.toArray), (5, .slice (some ⟨dr, 0, none⟩) l.length l.length), (6, .int .i64 q), (7, lv), (42, .slice Ac (kid l q).length cc), (43, .int .i64 (kid l q).length), (44, .int .i64 j)] ∧
          FInv w w3 (.slice (some ⟨dr, 0, none⟩) l.length l.length) os ∧ Below w2.heap.size w2 w3 ∧ FInv w2 w3 lv (((kid l q).take j).map (rd os)))
        ⟨_, _, ⟨0, _, rfl, Nat.zero_le _, rfl, hI, Below.refl _ _, FInv.nil (Below.refl _ _)⟩, (by repeat (first | exact trivial | refine And.intro rfl ?_))⟩ ?_
      rintro m ρ w3 ⟨j, lv, rfl, hj, rfl, hI3, hb3, hL3⟩
      have hdr2 : dr < w2.heap.size := (hI.own.lt dr rfl).2
      (repeat (first | with_reducible refine W.seq ?_ | with_reducible refine Ops.nil ?_ | with_reducible refine W.region ?_ | refine z_p (kk := ?_)))
      refine W.cond rfl (fun hc => ?_) (fun hc => ?_)
      · have hlt : j < (kid l q).length := by simp at hc; omega
        have hkin := hT.kin q j (by omega) hlt
        simp only [Go.Proofs.Ytdiljpnfochndaa.HP.k_] at hkin
        have htk := Go.Proofs.Ytdiljpnfochndaa.HP.take_snoc (kid l q) j hlt
        (repeat (first | with_reducible refine W.seq ?_ | with_reducible refine W.region ?_ | with_reducible refine W.skip ?_ | with_reducible refine W.block ?_))
        refine Ops.rdS (enc := Value.int .i64) (z := (0 : Int)) rfl rfl rfl rfl rfl rfl rfl rfl rfl rfl rfl (Sl.below hcv hb3) (by omega) (by omega) (fun p => ?_)
        simp only [Int.toNat_natCast]
        generalize (kid l q).getD j 0 = cj at *
        (repeat (first | with_reducible refine Ops.nil ?_ | with_reducible refine W.region ?_ | refine z_p (kk := ?_)))
        refine Ops.rdS (enc := Value.int .i64) (z := (0 : Int)) rfl rfl rfl rfl rfl rfl rfl rfl rfl rfl rfl hI3.sl (by omega) (by omega) (fun p => ?_)
        refine Ops.push rfl rfl rfl rfl rfl rfl rfl rfl rfl rfl rfl rfl (fun _ => rfl) rfl hL3.own (by simp; omega) (fun lv' p w4 hown4 k4 hn4 => ?_)
        have hL4 := hL3.push hown4 k4 hn4
        have hI4 : FInv w w4 (.slice (some ⟨dr, 0, none⟩) l.length l.length) os := hI3.kp k4 (fun i hi => by
          have := hL3.ge i hi
          have := hbase.size
          refine ⟨by omega, fun e => ?_⟩
          simp [Value.ownBlock] at e
          omega)
        have hb4 : Below w2.heap.size w2 w4 := Below.at_ hb3 k4 (fun i hi => hL3.ge i hi)
        (repeat (first | with_reducible refine Ops.nil ?_ | with_reducible refine W.region ?_ | refine z_p (kk := ?_) | refine z_a (kk := ?_) | with_reducible refine W.endb ?_))
        refine W.endl ⟨_, _, ⟨⟨j + 1, lv', rfl, by omega, rfl, hI4, hb4, ?_⟩, by omega⟩, (by repeat (first | exact trivial | refine And.intro rfl ?_))⟩
        rw [htk, List.map_append]
        exact hL4
      · have hlt : j = (kid l q).length := by simp at hc; omega
        subst hlt
        rw [List.take_length] at hL3
        have hG3 := hG2.below hb3
        have hpos : 0 < ((kid l q).map (rd os)).length := by rw [List.length_map]; exact Go.Proofs.Ytdiljpnfochndaa.HP.kid_ne hlf
        (repeat (first | with_reducible refine W.seq ?_ | with_reducible refine W.region ?_ | refine z_p (kk := ?_) | refine W.exit rfl ?_))
        refine Ops.callS rfl rfl rfl rfl rfl (atMax_c hG3 q (by omega) (by have := hT.len; omega)) ?_
        (repeat (first | with_reducible refine Ops.nil ?_))
        refine W.cond rfl (fun hev => ?_) (fun hev => ?_)
        · (repeat (first | with_reducible refine W.region ?_ | refine z_p (kk := ?_)))
          refine Ops.callS rfl rfl rfl rfl rfl (max_c hL3.sl hpos) ?_
          refine Ops.wrS rfl rfl rfl rfl rfl rfl rfl rfl rfl rfl rfl rfl (by simp) rfl hI3.own (by omega) (by omega) (fun w4 p hown4 k4 _ => ?_)
          have hI4 := hI3.wr (by omega) hown4 k4
          simp only [Int.toNat_natCast] at hI4
          (repeat (first | with_reducible refine Ops.nil ?_ | with_reducible refine W.region ?_ | refine z_p (kk := ?_) | refine z_a (kk := ?_) | with_reducible refine W.endb ?_))
          exact W.endl ⟨q, _, ⟨⟨_, by omega, rfl, hI4, by simpa using hol, Go.Proofs.Ytdiljpnfochndaa.HP.val_set hT (by omega) hol (by simp [NV, hlf, hev]) hval⟩, by omega⟩, (by repeat (first | exact trivial | refine And.intro rfl ?_))⟩
        · (repeat (first | with_reducible refine W.region ?_ | refine z_p (kk := ?_)))
          refine Ops.callS rfl rfl rfl rfl rfl (min_c hL3.sl hpos) ?_
          refine Ops.wrS rfl rfl rfl rfl rfl rfl rfl rfl rfl rfl rfl rfl (by simp) rfl hI3.own (by omega) (by omega) (fun w4 p hown4 k4 _ => ?_)
          have hI4 := hI3.wr (by omega) hown4 k4
          simp only [Int.toNat_natCast] at hI4
          (repeat (first | with_reducible refine Ops.nil ?_ | with_reducible refine W.region ?_ | refine z_p (kk := ?_) | refine z_a (kk := ?_) | with_reducible refine W.endb ?_))
          exact W.endl ⟨q, _, ⟨⟨_, by omega, rfl, hI4, by simpa using hol, Go.Proofs.Ytdiljpnfochndaa.HP.val_set hT (by omega) hol (by simp [NV, hlf, hev]) hval⟩, by omega⟩, (by repeat (first | exact trivial | refine And.intro rfl ?_))⟩
  · obtain rfl : m = 0 := by simp at hc; omega
    (repeat (first | with_reducible refine W.seq ?_ | with_reducible refine Ops.nil ?_ | with_reducible refine W.region ?_ | refine z_p (kk := ?_) | refine W.exit rfl ?_))
    exact W.fret rfl ⟨os, ⟨hol, fun j hj => hval j (Nat.zero_le _) hj⟩, hI⟩
end Go.Proofs.Ytdiljpnfochndaa
namespace Go.Proofs.Ytdiljpnfochndaa
open Go Go.RowKit Go.Proofs.Ytdiljpnfochndaa.VW
open Go.Proofs.Ytdiljpnfochndaa.HP (Nd kid wor leafB rd evB TF maxL minL NV ValP gameOf gameOf_TF)
attribute [local irreducible] W Ops
theorem Clo.worth {w : World} {g : Nat} {l : List Nd} {dep : List Int} (hG : Game w g l dep) : Clo w (.func (.func 60) #[.pointer (some ⟨g, 0, none⟩)] #[]) (wor l) (fun i => 0 ≤ i ∧ i < l.length ∧ leafB l i = true) :=
  ⟨60, [.pointer (some ⟨g, 0, none⟩)], [], rfl, rfl, fun i w' hb hi => (worth_c (hG.below hb) i hi.1 hi.2.1).mono fun e w'' ⟨v, he, h1, h2⟩ => ⟨v, he, h1, by rw [h2]; exact Below.refl _ _⟩⟩
theorem value_c {w : World} {v : Value} {l : List Nd} (hT : TreeM w v l) (hl : l.length ≤ 9223372036854775807) :
    Calls Try.prog 35 #[v] w (Ret fun r w' => Below w.heap.size w w' ∧ match gameOf l with
      | none => r = .tuple #[.int .i64 0, .int .i64 2]
      | some dep => ∃ vs, ValP l dep (wor l) vs ∧ r = .tuple #[.int .i64 (vs.getD 0 0), .int .i64 0]) := by
  refine calls_W (vs := [_]) Try.func35 rfl (by kernel_rfl) rfl ?_
  (repeat (first | with_reducible refine W.seq ?_ | with_reducible refine Ops.nil ?_ | with_reducible refine W.region ?_ | refine z_p (kk := ?_)))
  refine Ops.call rfl rfl rfl rfl rfl (newGame_c hT hl) (fun r w1 hR => ?_)
  obtain ⟨hb1, hR⟩ := hR
  cases hg : gameOf l with
  | none =>
    rw [hg] at hR
    obtain ⟨p, hp1, rfl⟩ := hR
    (repeat (first | with_reducible refine W.seq ?_ | with_reducible refine Ops.nil ?_ | with_reducible refine W.region ?_ | refine z_p (kk := ?_)))
    refine W.cond rfl (fun hc => ?_) (fun hc => ?_)
    · (repeat (first | with_reducible refine W.seq ?_ | with_reducible refine Ops.nil ?_ | with_reducible refine W.region ?_ | refine z_p (kk := ?_)))
      exact W.fret rfl ⟨hb1, rfl⟩
    · simp at hc
  | some dep =>
    rw [hg] at hR
    obtain ⟨g, rfl, hgs, hG⟩ := hR
    (repeat (first | with_reducible refine W.seq ?_ | with_reducible refine Ops.nil ?_ | with_reducible refine W.region ?_ | refine z_p (kk := ?_)))
    refine W.cond rfl (fun hc => ?_) (fun hc => ?_)
    · simp at hc
    · (repeat (first | with_reducible refine W.seq ?_ | with_reducible refine W.region ?_ | refine z_p (kk := ?_) | with_reducible refine W.skip ?_))
      refine Ops.call rfl rfl rfl rfl rfl (values_c hG (gameOf_TF hg) (Clo.worth hG)) (fun r w2 hR => ?_)
      obtain ⟨vs, hvs, hI⟩ := hR
      have hn := (gameOf_TF hg).n1
      have hvl := hvs.len
      refine Ops.rdS (enc := Value.int .i64) (z := (0 : Int)) rfl rfl rfl rfl rfl rfl rfl rfl rfl rfl rfl hI.sl (by omega) (by omega) (fun p => ?_)
      (repeat (first | with_reducible refine Ops.nil ?_ | refine z_p (kk := ?_)))
      have hb2 : Below w.heap.size w w2 := hb1.trans (hI.bel.mono hb1.size)
      exact W.fret rfl ⟨hb2, vs, hvs, rfl⟩
theorem valuesF_c {w : World} {v : Value} {l : List Nd} (hT : TreeM w v l) (hl : l.length ≤ 9223372036854775807) :
    Calls Try.prog 39 #[v] w (Ret fun r w' => Below w.heap.size w w' ∧ match gameOf l with
      | none => r = .tuple #[.slice none 0 0, .int .i64 2]
      | some dep => ∃ vs u, ValP l dep (wor l) vs ∧ r = .tuple #[u, .int .i64 0] ∧ FInv w w' u vs) := by
  refine calls_W (vs := [_]) Try.func39 rfl (by kernel_rfl) rfl ?_
  (repeat (first | with_reducible refine W.seq ?_ | with_reducible refine Ops.nil ?_ | with_reducible refine W.region ?_ | refine z_p (kk := ?_)))
  refine Ops.call rfl rfl rfl rfl rfl (newGame_c hT hl) (fun r w1 hR => ?_)
  obtain ⟨hb1, hR⟩ := hR
  cases hg : gameOf l with
  | none =>
    rw [hg] at hR
    obtain ⟨p, hp1, rfl⟩ := hR
    (repeat (first | with_reducible refine W.seq ?_ | with_reducible refine Ops.nil ?_ | with_reducible refine W.region ?_ | refine z_p (kk := ?_)))
    refine W.cond rfl (fun hc => ?_) (fun hc => ?_)
    · (repeat (first | with_reducible refine W.seq ?_ | with_reducible refine Ops.nil ?_ | with_reducible refine W.region ?_ | refine z_p (kk := ?_)))
      exact W.fret rfl ⟨hb1, rfl⟩
    · simp at hc
  | some dep =>
    rw [hg] at hR
    obtain ⟨g, rfl, hgs, hG⟩ := hR
    (repeat (first | with_reducible refine W.seq ?_ | with_reducible refine Ops.nil ?_ | with_reducible refine W.region ?_ | refine z_p (kk := ?_)))
    refine W.cond rfl (fun hc => ?_) (fun hc => ?_)
    · simp at hc
    · (repeat (first | with_reducible refine W.seq ?_ | with_reducible refine W.region ?_ | refine z_p (kk := ?_) | with_reducible refine W.skip ?_))
      refine Ops.call rfl rfl rfl rfl rfl (values_c hG (gameOf_TF hg) (Clo.worth hG)) (fun r w2 hR => ?_)
      obtain ⟨vs, hvs, hI⟩ := hR
      (repeat (first | with_reducible refine Ops.nil ?_ | refine z_p (kk := ?_)))
      have hb2 : Below w.heap.size w w2 := hb1.trans (hI.bel.mono hb1.size)
      exact W.fret rfl ⟨hb2, vs, _, hvs, rfl, ⟨hb2, hI.own, fun k hk => Nat.le_trans hb1.size (hI.ge k hk)⟩⟩
end Go.Proofs.Ytdiljpnfochndaa
/- slices.Sort at a slice of the call's own. (lays189: laid by the kit's shelf tool.) -/
namespace Go.Proofs
open Go.Shelf
def Try.lays189_ren : Go.Shelf.Ren := ⟨fun | 189 => 91 | 125 => 101 | 257 => 100 | 128 => 115 | 129 => 116 | 294 => 106 | 295 => 107 | 296 => 108 | 297 => 109 | 298 => 110 | 299 => 111 | 216 => 112 | 300 => 113 | 301 => 114 | 328 => 120 | 329 => 121 | 330 => 122 | 331 => 123 | 332 => 124 | 215 => 125 | 343 => 127 | n => n, fun | 28 => 24 | 3 => 3 | 46 => 87 | 0 => 0 | 51 => 122 | 53 => 124 | 4 => 4 | 183 => 115 | 182 => 114 | 131 => 63 | 5 => 5 | 9 => 9 | 218 => 129 | 222 => 133 | 228 => 135 | 229 => 41 | n => n, fun | n => n⟩
theorem Try.lays189 : Go.Proofs.Lays.n189 Try.prog Try.lays189_ren := {
  mixed := by kernel_rfl
  f125 := Try.func101.trans (congrArg some (by kernel_rfl))
  f128 := Try.func115.trans (congrArg some (by kernel_rfl))
  f129 := Try.func116.trans (congrArg some (by kernel_rfl))
  f189 := Try.func91.trans (congrArg some (by kernel_rfl))
  f215 := Try.func125.trans (congrArg some (by kernel_rfl))
  f216 := Try.func112.trans (congrArg some (by kernel_rfl))
  f257 := Try.func100.trans (congrArg some (by kernel_rfl))
  f294 := Try.func106.trans (congrArg some (by kernel_rfl))
  f295 := Try.func107.trans (congrArg some (by kernel_rfl))
  f296 := Try.func108.trans (congrArg some (by kernel_rfl))
  f297 := Try.func109.trans (congrArg some (by kernel_rfl))
  f298 := Try.func110.trans (congrArg some (by kernel_rfl))
  f299 := Try.func111.trans (congrArg some (by kernel_rfl))
  f300 := Try.func113.trans (congrArg some (by kernel_rfl))
  f301 := Try.func114.trans (congrArg some (by kernel_rfl))
  f328 := Try.func120.trans (congrArg some (by kernel_rfl))
  f329 := Try.func121.trans (congrArg some (by kernel_rfl))
  f330 := Try.func122.trans (congrArg some (by kernel_rfl))
  f331 := Try.func123.trans (congrArg some (by kernel_rfl))
  f332 := Try.func124.trans (congrArg some (by kernel_rfl))
  f343 := Try.func127.trans (congrArg some (by kernel_rfl))
  t0 := Try.underlying0
  a0 := Try.isAgg0
  z0 := Try.sizeOf0
  v0 := Try.zeroValue0
  t3 := Try.underlying3
  a3 := Try.isAgg3
  z3 := Try.sizeOf3
  v3 := Try.zeroValue3
  t4 := Try.underlying4
  a4 := Try.isAgg4
  z4 := Try.sizeOf4
  v4 := Try.zeroValue4
  t5 := Try.underlying5
  a5 := Try.isAgg5
  z5 := Try.sizeOf5
  v5 := Try.zeroValue5
  t9 := Try.underlying9
  a9 := Try.isAgg9
  z9 := Try.sizeOf9
  v9 := Try.zeroValue9
  t28 := Try.underlying24
  a28 := Try.isAgg24
  z28 := Try.sizeOf24
  v28 := Try.zeroValue24
  t46 := Try.underlying87
  a46 := Try.isAgg87
  z46 := Try.sizeOf87
  v46 := Try.zeroValue87
  t51 := Try.underlying122
  a51 := Try.isAgg122
  z51 := Try.sizeOf122
  v51 := Try.zeroValue122
  t53 := Try.underlying124
  a53 := Try.isAgg124
  z53 := Try.sizeOf124
  v53 := Try.zeroValue124
  t131 := Try.underlying63
  a131 := Try.isAgg63
  z131 := Try.sizeOf63
  v131 := Try.zeroValue63
  t182 := Try.underlying114
  a182 := Try.isAgg114
  z182 := Try.sizeOf114
  v182 := Try.zeroValue114
  t183 := Try.underlying115
  a183 := Try.isAgg115
  z183 := Try.sizeOf115
  v183 := Try.zeroValue115
  t218 := Try.underlying129
  a218 := Try.isAgg129
  z218 := Try.sizeOf129
  v218 := Try.zeroValue129
  t222 := Try.underlying133
  a222 := Try.isAgg133
  z222 := Try.sizeOf133
  v222 := Try.zeroValue133
  t228 := Try.underlying135
  a228 := Try.isAgg135
  z228 := Try.sizeOf135
  v228 := Try.zeroValue135
  t229 := Try.underlying41
  a229 := Try.isAgg41
  z229 := Try.sizeOf41
  v229 := Try.zeroValue41 }
open Go.Sort Go.RowKit in
theorem Try.slices_Sort_int (blk off cap : Nat) (zs : List Int) (w : World) (hH : Holds (Value.int .i64) w blk off zs.toArray) (hblk : blk < w.heap.size) (hsz : zs.length < 4611686018427387904) :
    Calls Try.prog 91 #[.slice (some ⟨blk, off, none⟩) zs.length cap] w fun e w' =>
      e = .returned (.tuple #[]) ∧ ∃ n os, w' = grow (putRow (Value.int .i64) (Sort.ahead w n) blk off (zs.mergeSort fun x y => decide (x ≤ y)).toArray) os := Any.slices_Sort_int Try.lays189 blk off cap zs w hH hblk hsz
end Go.Proofs
namespace Go.Proofs.Ytdiljpnfochndaa
open Go Go.RowKit Go.Proofs.Ytdiljpnfochndaa.VW
theorem sort_c {w : World} {v : Value} {xs : List Int} (hown : w.ownsRow 0 3 1 v xs.length (xs.map (Value.int .i64))) (hp : 0 < xs.length) (hl : xs.length < 4611686018427387904) :
    Calls Try.prog 91 #[v] w (Ret fun r w' => r = .tuple #[] ∧ w'.ownsRow 0 3 1 v xs.length ((xs.mergeSort fun x y => decide (x ≤ y)).map (Value.int .i64)) ∧ Kp (fun i => v.ownBlock = some i) w w') := by
  have ho := hown
  rcases hown.2 with ⟨rfl, h0⟩ | ⟨g, cap, cur, rfl, _, hg, hnc, hcm, hcs, ht⟩
  · omega
  · have hlt : g < w.heap.size := (Array.getElem?_eq_some_iff.1 hg).1
    refine (Try.slices_Sort_int g 0 cap xs w ?_ hlt hl).mono ?_
    · intro j hj
      have hj' : j < xs.length := by simpa using hj
      refine ⟨?_, ?_⟩
      · have := ho.cells (g := g) rfl j (.int .i64 xs[j]) (by simp [hj'])
        rw [add_lit] at this
        rw [this]
        simp [hj']
      · simp [World.frozen?, hg]
    · rintro e w' ⟨rfl, n, os, rfl⟩
      have hlen : (xs.mergeSort fun x y => decide (x ≤ y)).length = xs.length := List.length_mergeSort _
      have hsz : (Go.Sort.putRow (Value.int .i64) (Go.Sort.ahead w n) g 0 (xs.mergeSort fun x y => decide (x ≤ y)).toArray).heap.size = w.heap.size := by
        simp [Go.Sort.putRow, Go.Sort.mapBlock, Go.Sort.ahead]
      have hat : ∀ i, i < w.heap.size → (Go.Sort.grow (Go.Sort.putRow (Value.int .i64) (Go.Sort.ahead w n) g 0 (xs.mergeSort fun x y => decide (x ≤ y)).toArray) os).heap[i]? = (Go.Sort.putRow (Value.int .i64) (Go.Sort.ahead w n) g 0 (xs.mergeSort fun x y => decide (x ≤ y)).toArray).heap[i]? := by
        intro i hi
        simp only [Go.Sort.grow]
        rw [Array.getElem?_append_left (by rw [hsz]; exact hi)]
      refine ⟨_, rfl, rfl, ⟨by simp [hlen], .inr ⟨g, cap, Go.Sort.putCells (Value.int .i64) 0 (xs.mergeSort fun x y => decide (x ≤ y)).toArray cur, rfl, Nat.zero_le _, ?_, hnc, hcm, ?_, ?_⟩⟩, ⟨rfl, rfl, rfl, ?_, ?_⟩⟩
      · rw [hat g hlt]
        simp [Go.Sort.putRow, Go.Sort.mapBlock, Go.Sort.ahead, Array.getElem?_modify, hg, Go.Sort.onCells]
      · simp [Go.Sort.putCells, hcs]
      · apply List.ext_getElem
        · simp [Go.Sort.putCells, hcs, hlen]; omega
        · intro i h1 h2
          simp [hlen] at h2
          simp [Go.Sort.putCells, hlen, h2]
      · simp only [Go.Sort.grow, Array.size_append, hsz]; omega
      · intro i hi hn
        rw [hat i hi]
        simp only [Value.ownBlock, Option.some.injEq] at hn
        simp [Go.Sort.putRow, Go.Sort.mapBlock, Go.Sort.ahead, Array.getElem?_modify, hn]
end Go.Proofs.Ytdiljpnfochndaa
/- Efforts: how many leaves are needed, and which. -/
namespace Go.Proofs.Ytdiljpnfochndaa.HP
abbrev far : Int := 1099511627776
abbrev Ef := Int × List Int
abbrev ed (es : List Ef) (c : Int) : Ef := es.getD c.toNat (0, [])
def pickF (es : List Ef) (a : Ef) (c : Int) : Ef := if (ed es c).1 < a.1 then ed es c else a
def joinF (es : List Ef) (a : Ef) (c : Int) : Ef := (min far (a.1 + (ed es c).1), a.2 ++ (ed es c).2)
def NE (l : List Nd) (dep : List Int) (mx : Bool) (lf : Int → Int) (es : List Ef) (j : Int) : Ef :=
  if leafB l j then (lf j, [j]) else if evB dep j == mx then (kid l j).foldl (pickF es) (far, []) else (kid l j).foldl (joinF es) (0, [])
structure NeedP (l : List Nd) (dep : List Int) (mx : Bool) (lf : Int → Int) (es : List Ef) : Prop where
  len : es.length = l.length
  at_ : ∀ j : Nat, j < l.length → es.getD j (0, []) = NE l dep mx lf es j
def Anc (l : List Nd) : Nat → Int → Int → Prop
  | 0, c, x => c = x
  | k + 1, c, x => ∃ c' ∈ kid l c, Anc l k c' x
theorem kid_at {l : List Nd} {i c : Int} (h : c ∈ kid l i) : ∃ b : Nat, b < (kid l i).length ∧ (kid l i).getD b 0 = c := by
  obtain ⟨b, hb, rfl⟩ := List.mem_iff_getElem.1 h
  exact ⟨b, hb, by simp [List.getD_eq_getElem?_getD, hb]⟩
theorem kid_lt {l : List Nd} {i c : Int} (h0 : 0 ≤ i) (h : c ∈ kid l i) : i < l.length := by
  by_cases hl : i.toNat < l.length
  · omega
  · unfold kid at h
    rw [List.getD_eq_getElem?_getD, List.getElem?_eq_none (by omega)] at h
    simp at h
theorem Anc.dep {l : List Nd} {dep : List Int} (h : TF l dep) : ∀ {k : Nat} {c x : Int}, 0 ≤ c → Anc l k c x → rd dep x = rd dep c + k ∧ c ≤ x
  | 0, c, x, _, ha => by simp only [Anc] at ha; subst ha; simp
  | k + 1, c, x, hc, ha => by
    obtain ⟨c', hm, ha⟩ := ha
    have hlt := kid_lt hc hm
    obtain ⟨m, rfl⟩ := Int.eq_ofNat_of_zero_le hc
    obtain ⟨b, hb, hb2⟩ := kid_at hm
    have h1 := h.kin m b (by omega) hb
    have h2 := h.kdep m b (by omega) hb
    simp only [k_] at h1 h2
    rw [hb2] at h1 h2
    have h3 := Anc.dep h (k := k) (by omega) ha
    refine ⟨?_, by omega⟩
    rw [h3.1, h2]
    omega
theorem Anc.uniq {l : List Nd} {dep : List Int} (h : TF l dep) : ∀ {k : Nat} {c c' x : Int}, 0 ≤ c → 0 ≤ c' → Anc l k c x → Anc l k c' x → c = c'
  | 0, c, c', x, _, _, h1, h2 => by simp only [Anc] at h1 h2; omega
  | k + 1, c, c', x, hc, hc', ⟨d, hd, h1⟩, ⟨d', hd', h2⟩ => by
    have hl := kid_lt hc hd
    have hl' := kid_lt hc' hd'
    obtain ⟨m, rfl⟩ := Int.eq_ofNat_of_zero_le hc
    obtain ⟨m', rfl⟩ := Int.eq_ofNat_of_zero_le hc'
    obtain ⟨b, hb, e⟩ := kid_at hd
    obtain ⟨b', hb', e'⟩ := kid_at hd'
    have q1 := h.kin m b (by omega) hb
    have q2 := h.kin m' b' (by omega) hb'
    simp only [k_] at q1 q2
    rw [e] at q1
    rw [e'] at q2
    have := Anc.uniq h (k := k) (by omega) (by omega) h1 h2
    have := (h.inj m b m' b' (by omega) hb (by omega) hb' (by simp only [k_]; omega)).1
    omega
structure GoodE (l : List Nd) (j : Int) (xs : List Int) : Prop where
  mem : ∀ x ∈ xs, 0 ≤ x ∧ x < l.length ∧ leafB l x = true ∧ ∃ k, Anc l k j x
  nd : xs.Nodup
theorem nodup_len : ∀ (n : Nat) (xs : List Int), xs.Nodup → (∀ x ∈ xs, 0 ≤ x ∧ x < n) → xs.length ≤ n
  | 0, xs, _, h => by
    cases xs with
    | nil => simp
    | cons a r => have := h a (by simp); omega
  | n + 1, xs, hn, h => by
    have h1 := nodup_len n (xs.erase n) (hn.erase _) (fun x hx => by
      have hm := (hn.mem_erase_iff).1 hx
      have := h x hm.2
      have := hm.1
      omega)
    rw [List.length_erase] at h1
    split at h1 <;> omega
theorem GoodE.len {l : List Nd} {j : Int} {xs : List Int} (h : GoodE l j xs) : xs.length ≤ l.length := nodup_len _ _ h.nd fun x hx => ⟨(h.mem x hx).1, (h.mem x hx).2.1⟩
theorem GoodE.nil (l : List Nd) (j : Int) : GoodE l j [] := ⟨by simp, by simp⟩
theorem GoodE.up {l : List Nd} {j c : Int} {xs : List Int} (h : GoodE l c xs) (hc : c ∈ kid l j) : GoodE l j xs :=
  ⟨fun x hx => by obtain ⟨h1, h2, h4, k, h3⟩ := h.mem x hx; exact ⟨h1, h2, h4, k + 1, c, hc, h3⟩, h.nd⟩
/-- The list behind the first t children, for him who needs all of them. -/
theorem good_join {l : List Nd} {dep : List Int} (hT : TF l dep) {j : Nat} (hj : j < l.length) {es : List Ef} (hg : ∀ c ∈ kid l j, GoodE l c (ed es c).2) (t : Nat) (ht : t ≤ (kid l j).length) :
    GoodE l j (((kid l j).take t).foldl (joinF es) (0, [])).2 ∧ ∀ x ∈ (((kid l j).take t).foldl (joinF es) (0, [])).2, ∃ b k, b < t ∧ Anc l k ((kid l j).getD b 0) x := by
  induction t with
  | zero => exact ⟨GoodE.nil _ _, by simp⟩
  | succ t ih =>
    obtain ⟨h1, h2⟩ := ih (by omega)
    rw [take_snoc _ _ (by omega), List.foldl_append]
    simp only [List.foldl_cons, List.foldl_nil, joinF]
    have hmem : (kid l j).getD t 0 ∈ kid l j := by
      rw [List.getD_eq_getElem?_getD, List.getElem?_eq_getElem (by omega)]
      simp
    have hc := hg _ hmem
    refine ⟨⟨fun x hx => ?_, ?_⟩, fun x hx => ?_⟩
    · rcases List.mem_append.1 hx with hx | hx
      · exact h1.mem x hx
      · exact (hc.up hmem).mem x hx
    · rw [List.nodup_append]
      refine ⟨h1.nd, hc.nd, fun x hx y hy e => ?_⟩
      subst e
      obtain ⟨b, k, hb, ha⟩ := h2 x hx
      obtain ⟨_, _, _, k', ha'⟩ := hc.mem x hy
      have q1 := hT.kin j b hj (by omega)
      have q2 := hT.kin j t hj (by omega)
      have d1 := hT.kdep j b hj (by omega)
      have d2 := hT.kdep j t hj (by omega)
      simp only [k_] at q1 q2 d1 d2
      have e1 := ha.dep hT (by omega)
      have e2 := ha'.dep hT (by omega)
      have hk : k = k' := by omega
      subst hk
      have := Anc.uniq hT (by omega) (by omega) ha ha'
      have := (hT.inj j b j t hj (by omega) hj (by omega) this).2
      omega
    · rcases List.mem_append.1 hx with hx | hx
      · obtain ⟨b, k, hb, ha⟩ := h2 x hx
        exact ⟨b, k, by omega, ha⟩
      · obtain ⟨_, _, _, k, ha⟩ := hc.mem x hx
        exact ⟨t, k, by omega, ha⟩
theorem good_pick {l : List Nd} {j : Nat} {es : List Ef} (hg : ∀ c ∈ kid l j, GoodE l c (ed es c).2) : ∀ cs : List Int, (∀ c ∈ cs, c ∈ kid l j) → ∀ a, GoodE l j a.2 → GoodE l j (cs.foldl (pickF es) a).2
  | [], _, a, ha => ha
  | c :: r, hc, a, ha => by
    refine good_pick hg r (fun c h => hc c (by simp [h])) _ ?_
    unfold pickF
    split
    · exact (hg c (hc c (by simp))).up (hc c (by simp))
    · exact ha
theorem NE_congr {l : List Nd} {dep : List Int} (h : TF l dep) {i : Nat} (hi : i < l.length) {mx : Bool} {lf : Int → Int} {es us : List Ef} (he : ∀ j : Nat, i < j → j < l.length → es.getD j (0, []) = us.getD j (0, [])) : NE l dep mx lf es i = NE l dep mx lf us i := by
  have hk : ∀ c ∈ kid l i, ed es c = ed us c := fun c hc => by
    obtain ⟨h1, h2⟩ := mem_kid h hi hc
    exact he c.toNat (by omega) (by omega)
  have hf : ∀ (cs : List Int) (f g : Ef → Int → Ef) (a : Ef), (∀ a, ∀ c ∈ cs, f a c = g a c) → cs.foldl f a = cs.foldl g a := by
    intro cs f g
    induction cs with
    | nil => intro a _; rfl
    | cons c r ih => intro a hh; simp only [List.foldl_cons]; rw [hh a c (by simp)]; exact ih _ fun a c hc => hh a c (by simp [hc])
  unfold NE
  rw [hf (kid l i) (pickF es) (pickF us) _ (fun a c hc => by simp only [pickF, hk c hc]), hf (kid l i) (joinF es) (joinF us) _ (fun a c hc => by simp only [joinF, hk c hc])]
theorem NeedP.uniq {l : List Nd} {dep : List Int} (h : TF l dep) {mx : Bool} {lf : Int → Int} {vs us : List Ef} (hv : NeedP l dep mx lf vs) (hu : NeedP l dep mx lf us) : vs = us := by
  have key : ∀ d j : Nat, l.length - j = d → j < l.length → vs.getD j (0, []) = us.getD j (0, []) := by
    intro d
    induction d using Nat.strongRecOn with
    | _ d ih =>
      intro j hd hj
      rw [hv.at_ j hj, hu.at_ j hj]
      exact NE_congr h hj fun q hq hql => ih (l.length - q) (by omega) q rfl hql
  apply List.ext_getElem (by rw [hv.len, hu.len])
  intro j h1 h2
  have := key _ j rfl (by rw [← hv.len]; exact h1)
  simpa [List.getD_eq_getElem?_getD, h1, h2] using this
theorem NE_good {l : List Nd} {dep : List Int} (hT : TF l dep) {mx : Bool} {lf : Int → Int} {es : List Ef} {j : Nat} (hj : j < l.length) (hg : ∀ c ∈ kid l j, GoodE l c (ed es c).2) : GoodE l j (NE l dep mx lf es j).2 := by
  unfold NE
  split
  · rename_i hl
    refine ⟨fun x hx => ?_, by simp⟩
    simp at hx
    subst hx
    exact ⟨by omega, by omega, hl, 0, rfl⟩
  · split
    · exact good_pick hg _ (fun c hc => hc) _ (GoodE.nil _ _)
    · have := (good_join hT hj hg (kid l j).length (Nat.le_refl _)).1
      rw [List.take_length] at this
      exact this
theorem NE_bd {l : List Nd} {dep : List Int} {mx : Bool} {lf : Int → Int} {es : List Ef} {j : Nat} (hlf : leafB l j = true → 0 ≤ lf j ∧ lf j ≤ far) (hb : ∀ c ∈ kid l j, 0 ≤ (ed es c).1 ∧ (ed es c).1 ≤ far) : 0 ≤ (NE l dep mx lf es j).1 ∧ (NE l dep mx lf es j).1 ≤ far := by
  have h1 : ∀ (cs : List Int), (∀ c ∈ cs, c ∈ kid l j) → ∀ a : Ef, 0 ≤ a.1 ∧ a.1 ≤ far → 0 ≤ (cs.foldl (pickF es) a).1 ∧ (cs.foldl (pickF es) a).1 ≤ far := by
    intro cs
    induction cs with
    | nil => intro _ a ha; exact ha
    | cons c r ih =>
      intro hc a ha
      refine ih (fun c h => hc c (by simp [h])) _ ?_
      unfold pickF
      split
      · exact hb c (hc c (by simp))
      · exact ha
  have h2 : ∀ (cs : List Int), (∀ c ∈ cs, c ∈ kid l j) → ∀ a : Ef, 0 ≤ a.1 ∧ a.1 ≤ far → 0 ≤ (cs.foldl (joinF es) a).1 ∧ (cs.foldl (joinF es) a).1 ≤ far := by
    intro cs
    induction cs with
    | nil => intro _ a ha; exact ha
    | cons c r ih =>
      intro hc a ha
      refine ih (fun c h => hc c (by simp [h])) _ ?_
      have := hb c (hc c (by simp))
      simp only [joinF]
      omega
  unfold NE
  split
  · rename_i hl; exact hlf hl
  · split
    · exact h1 _ (fun c hc => hc) _ ⟨by decide, by decide⟩
    · exact h2 _ (fun c hc => hc) _ ⟨by decide, by decide⟩
end Go.Proofs.Ytdiljpnfochndaa.HP
namespace Go.Proofs.Ytdiljpnfochndaa
open Go Go.RowKit Go.Proofs.Ytdiljpnfochndaa.VW
open Go.Proofs.Ytdiljpnfochndaa.HP (Nd kid wor leafB rd evB TF)
attribute [local irreducible] W Ops
theorem grow_c {w : World} (i : Int) (h0 : 0 ≤ i) (h1 : i ≤ 1000000) : Calls Try.prog 102 #[.slice none 0 0, .int .i64 i] w (Ret fun r w' => FInv w w' r []) := by
  refine calls_W (vs := [_, _]) Try.func102 rfl (by kernel_rfl) rfl ?_
  (repeat (first | with_reducible refine W.seq ?_ | with_reducible refine Ops.nil ?_ | with_reducible refine W.region ?_ | refine z_p (kk := ?_)))
  refine W.cond rfl (fun hc => ?_) (fun hc => ?_)
  · simp at hc; omega
  (repeat (first | with_reducible refine W.seq ?_ | with_reducible refine W.region ?_ | refine z_p (kk := ?_) | with_reducible refine W.skip ?_))
  refine Ops.cap rfl rfl rfl rfl rfl ?_
  (repeat (first | with_reducible refine W.seq ?_ | with_reducible refine Ops.nil ?_ | with_reducible refine W.region ?_ | refine z_p (kk := ?_) | refine z_a (kk := ?_) | refine z_l (kk := ?_)))
  refine W.cond rfl (fun hc => ?_) (fun hc => ?_)
  · simp at hc
    (repeat (first | with_reducible refine W.region ?_ | refine z_p (kk := ?_)))
    refine Ops.cap rfl rfl rfl rfl rfl ?_
    refine Ops.slH rfl rfl rfl rfl rfl rfl rfl (by simp) (by simp) ?_
    (repeat (first | refine z_p (kk := ?_)))
    refine Ops.appZ rfl rfl rfl rfl rfl rfl rfl rfl rfl rfl rfl (by omega) (by omega) (fun r c w1 hr hcap hown k1 => ?_)
    (repeat (first | refine z_p (kk := ?_) | refine z_l (kk := ?_)))
    refine Ops.slH rfl rfl rfl rfl rfl rfl rfl (by simp) (by simp) ?_
    (repeat (first | with_reducible refine W.seq ?_ | with_reducible refine Ops.nil ?_ | with_reducible refine W.region ?_ | refine z_p (kk := ?_)))
    refine W.fret rfl ⟨k1.below (Nat.le_refl _) (fun _ _ e => e), hown, fun k hk => ?_⟩
    simp [resV, Value.ownBlock] at hk
    omega
  · (repeat (first | with_reducible refine W.seq ?_ | with_reducible refine Ops.nil ?_ | with_reducible refine W.region ?_ | refine z_p (kk := ?_) | with_reducible refine W.skip ?_))
    exact W.fret rfl (FInv.nil (Below.refl _ _))
/-- Slices of numbers in a slice of slices. -/
theorem concat_c {w : World} {r c : Nat} {svs : List Value} {xss : List (List Int)} (hB : Blk w r svs.toArray 24) (hl : svs.length = xss.length) (hs : ∀ j, j < xss.length → SlI w (svs.getD j undef) (xss.getD j [])) (hsum : xss.flatten.length ≤ 1000) (hn : xss.length ≤ 1000) :
    Calls Try.prog 94 #[.slice (some ⟨r, 0, none⟩) xss.length c] w (Ret fun v w' => FInv w w' v xss.flatten) := by
  have hcell : ∀ (w' : World) j, Below w.heap.size w w' → j < xss.length → w'.cell? ((⟨r, 0, none⟩ : Addr).add (j * 1)) = some (svs.getD j undef) := by
    intro w' j hb hj
    rw [Nat.mul_one, add_lit, Nat.zero_add]
    refine (hB.kp (Kp.of_below (S := fun _ => False) hb) (fun e => e)).cell ?_
    simp [List.getD_eq_getElem?_getD, hl, hj]
  have hpre : ∀ j, j ≤ xss.length → (xss.take j).flatten.length ≤ 1000 := by
    intro j hj
    have : xss.flatten.length = (xss.take j).flatten.length + (xss.drop j).flatten.length := by
      rw [← List.length_append, ← List.flatten_append, List.take_append_drop]
    omega
  have hstep : ∀ j, j < xss.length → (xss.take (j + 1)).flatten = (xss.take j).flatten ++ xss.getD j [] := by
    intro j hj
    rw [List.take_succ_eq_append_getElem hj, List.flatten_append]
    simp [List.getD_eq_getElem?_getD, hj]
  refine calls_W (vs := [_]) Try.func94 rfl (by kernel_rfl) rfl ?_
  (repeat (first | with_reducible refine W.seq ?_ | with_reducible refine Ops.nil ?_ | with_reducible refine W.region ?_ | refine z_p (kk := ?_) | with_reducible refine W.block ?_ | refine z_l (kk := ?_)))
  refine W.loop (fun m ρ w1 => ∃ j : Nat, m = xss.length - j ∧ j ≤ xss.length ∧ ρ = [(0, .slice (some ⟨r, 0, none⟩) xss.length c), (3, .int .i64 ((xss.take j).flatten.length : Nat)), (9, .slice (some ⟨r, 0, none⟩) xss.length c), (10, .int .i64 xss.length), (11, .int .i64 j)] ∧ w1 = w)
    ⟨_, _, ⟨0, rfl, Nat.zero_le _, rfl, rfl⟩, (by repeat (first | exact trivial | refine And.intro rfl ?_))⟩ ?_
  rintro m ρ w1 ⟨j, rfl, hj, rfl, rfl⟩
  (repeat (first | with_reducible refine W.seq ?_ | with_reducible refine Ops.nil ?_ | with_reducible refine W.region ?_ | refine z_p (kk := ?_)))
  refine W.cond rfl (fun hc => ?_) (fun hc => ?_)
  · have hlt : j < xss.length := by simp at hc; omega
    have hsj := hs j hlt
    obtain ⟨Aj, cj, ej⟩ := Sl.sl hsj
    have hp1 := hpre (j + 1) (by omega)
    rw [hstep j hlt, List.length_append] at hp1
    (repeat (first | with_reducible refine W.seq ?_ | with_reducible refine W.region ?_ | with_reducible refine W.skip ?_ | with_reducible refine W.block ?_))
    refine Ops.idx rfl rfl rfl rfl rfl rfl rfl (by omega) (by omega) (Ops.ld rfl rfl rfl rfl rfl (hcell w1 j (Below.refl _ _) hlt) ?_)
    rw [ej]
    (repeat (first | with_reducible refine W.seq ?_ | with_reducible refine Ops.nil ?_ | with_reducible refine W.region ?_ | refine z_p (kk := ?_) | refine z_a (kk := ?_) | refine z_l (kk := ?_)))
    refine W.cond rfl (fun hc => ?_) (fun hc => ?_)
    · simp at hc; omega
    (repeat (first | with_reducible refine Ops.nil ?_ | with_reducible refine W.region ?_ | refine z_p (kk := ?_) | refine z_a (kk := ?_) | with_reducible refine W.skip ?_ | with_reducible refine W.endb ?_))
    refine W.endl ⟨_, _, ⟨⟨j + 1, rfl, by omega, rfl, rfl⟩, by omega⟩, ⟨rfl, ?_, rfl, rfl, rfl, trivial⟩⟩
    rw [hstep j hlt, List.length_append]
    rfl
  · have hlt : j = xss.length := by simp at hc; omega
    subst hlt
    rw [List.take_length]
    (repeat (first | with_reducible refine W.seq ?_ | with_reducible refine W.region ?_ | refine z_p (kk := ?_) | refine W.exit rfl ?_))
    refine Ops.call rfl rfl rfl rfl rfl (grow_c _ (by omega) (by omega)) (fun v w2 hI => ?_)
    (repeat (first | with_reducible refine W.seq ?_ | with_reducible refine Ops.nil ?_ | with_reducible refine W.region ?_ | refine z_p (kk := ?_) | with_reducible refine W.block ?_ | refine z_l (kk := ?_)))
    refine W.loop (fun m ρ w2 => ∃ (j : Nat) (v : Value), m = xss.length - j ∧ j ≤ xss.length ∧ ρ = [(6, v), (25, .slice (some ⟨r, 0, none⟩) xss.length c), (26, .int .i64 xss.length), (27, .int .i64 j)] ∧ FInv w1 w2 v (xss.take j).flatten)
      ⟨_, _, ⟨0, v, rfl, Nat.zero_le _, rfl, hI⟩, (by repeat (first | exact trivial | refine And.intro rfl ?_))⟩ ?_
    rintro m ρ w2 ⟨j, v, rfl, hj, rfl, hI⟩
    (repeat (first | with_reducible refine W.seq ?_ | with_reducible refine Ops.nil ?_ | with_reducible refine W.region ?_ | refine z_p (kk := ?_)))
    refine W.cond rfl (fun hc => ?_) (fun hc => ?_)
    · have hlt : j < xss.length := by simp at hc; omega
      have hp1 := hpre (j + 1) (by omega)
      rw [hstep j hlt, List.length_append] at hp1
      (repeat (first | with_reducible refine W.seq ?_ | with_reducible refine W.region ?_ | with_reducible refine W.skip ?_ | with_reducible refine W.block ?_))
      refine Ops.idx rfl rfl rfl rfl rfl rfl rfl (by omega) (by omega) (Ops.ld rfl rfl rfl rfl rfl (hcell w2 j hI.bel hlt) ?_)
      (repeat (first | with_reducible refine Ops.nil ?_ | with_reducible refine W.region ?_ | refine z_p (kk := ?_)))
      refine Ops.appS (enc := Value.int .i64) (z0 := (0 : Int)) rfl rfl rfl rfl rfl rfl rfl rfl rfl rfl hI.own (Sl.below (hs j hlt) hI.bel) (fun _ => rfl) (by omega) (fun v' w3 ho k3 hn3 => ?_)
      have hI3 : FInv w1 w3 v' ((xss.take j).flatten ++ xss.getD j []) :=
        ⟨Below.at_ hI.bel k3 (fun i hi => hI.ge i hi), by simpa using ho, fun i hi => by rcases hn3 i hi with e | e; exact hI.ge i e; have := hI.bel.size; omega⟩
      rw [← hstep j hlt] at hI3
      (repeat (first | with_reducible refine Ops.nil ?_ | with_reducible refine W.region ?_ | refine z_p (kk := ?_) | refine z_a (kk := ?_) | with_reducible refine W.endb ?_))
      exact W.endl ⟨_, _, ⟨⟨j + 1, v', rfl, by omega, rfl, hI3⟩, by omega⟩, (by repeat (first | exact trivial | refine And.intro rfl ?_))⟩
    · have hlt : j = xss.length := by simp at hc; omega
      subst hlt
      rw [List.take_length] at hI
      (repeat (first | with_reducible refine W.seq ?_ | with_reducible refine Ops.nil ?_ | with_reducible refine W.region ?_ | refine z_p (kk := ?_) | refine W.exit rfl ?_))
      exact W.fret rfl hI
end Go.Proofs.Ytdiljpnfochndaa
namespace Go.Proofs.Ytdiljpnfochndaa
open Go Go.RowKit Go.Proofs.Ytdiljpnfochndaa.VW
open Go.Proofs.Ytdiljpnfochndaa.HP (Nd kid wor leafB rd evB TF far Ef ed pickF joinF NE NeedP GoodE)
attribute [local irreducible] W Ops
def Lf (w0 w : World) (ov lv : Value) (xs : List Int) : Prop := w.ownsRow 0 3 1 lv xs.length (xs.map (Value.int .i64)) ∧ ∀ k, lv.ownBlock = some k → w0.heap.size ≤ k ∧ ov.ownBlock ≠ some k
theorem Lf.kp {w0 w w' : World} {ov lv : Value} {xs : List Int} {S : Nat → Prop} (h : Lf w0 w ov lv xs) (k : Kp S w w') (hs : ∀ i, S i → w.heap.size ≤ i ∨ ov.ownBlock = some i) : Lf w0 w' ov lv xs :=
  ⟨own_kp h.1 k (fun i hi e => by rcases hs i e with h1 | h1; have := (h.1.lt i hi).2; omega; exact (h.2 i hi).2 h1), h.2⟩
theorem Lf.nil (w0 w : World) (ov : Value) : Lf w0 w ov (.slice none 0 0) [] := ⟨World.ownsRow_nil w 0 3 1, fun k hk => by simp [Value.ownBlock] at hk⟩
theorem Lf.sl {w0 w : World} {ov lv : Value} {xs : List Int} (h : Lf w0 w ov lv xs) : SlI w lv xs := own_sl (z := (0 : Int)) h.1
def EffC (w0 w : World) (ov : Value) (cs : List Value) (es : List Ef) : Prop :=
  w.ownsRow 0 84 2 ov es.length cs ∧ ∀ i, i < es.length → cs.getD (i * 2) undef = .int .i64 (es.getD i (0, [])).1 ∧ Lf w0 w ov (cs.getD (i * 2 + 1) undef) (es.getD i (0, [])).2
structure Eff (w0 w : World) (ov : Value) (es : List Ef) : Prop where
  bel : Below w0.heap.size w0 w
  ge : ∀ k, ov.ownBlock = some k → w0.heap.size ≤ k
  out : ∃ cs, EffC w0 w ov cs es
theorem Eff.kp {w0 w w' : World} {ov : Value} {es : List Ef} {S : Nat → Prop} (h : Eff w0 w ov es) (k : Kp S w w') (hs : ∀ i, S i → w.heap.size ≤ i) : Eff w0 w' ov es := by
  obtain ⟨cs, h1, h2⟩ := h.out
  exact ⟨Below.at_ h.bel k (fun i hi => by have := h.bel.size; have := hs i hi; omega), h.ge, cs, own_kp h1 k (fun i hi e => by have := (h1.lt i hi).2; have := hs i e; omega), fun i hi => ⟨(h2 i hi).1, (h2 i hi).2.kp k (fun j hj => .inl (hs j hj))⟩⟩
theorem lgetD_set_eq {α : Type} {cs : List α} {j : Nat} {u z : α} (h : j < cs.length) : (cs.set j u).getD j z = u := by rw [List.getD_eq_getElem?_getD, List.getElem?_set_self h]; rfl
theorem lgetD_set_ne {α : Type} {cs : List α} {j i : Nat} {u z : α} (h : j ≠ i) : (cs.set j u).getD i z = cs.getD i z := by rw [List.getD_eq_getElem?_getD, List.getElem?_set_ne h, ← List.getD_eq_getElem?_getD]
theorem Eff.setA {w0 w w' : World} {ov lv : Value} {es : List Ef} {cs : List Value} {q : Nat} {m : Int} {xs : List Int} (h : Eff w0 w ov es) (hc : EffC w0 w ov cs es) (hq : q < es.length)
    (hown : w'.ownsRow 0 84 2 ov es.length ((cs.set (q * 2) (.int .i64 m)).set (q * 2 + 1) lv)) (k : Kp (fun b => ov.ownBlock = some b) w w') (hl : Lf w0 w ov lv xs) : Eff w0 w' ov (es.set q (m, xs)) := by
  have hcl : cs.length = es.length * 2 := hc.1.1
  refine ⟨Below.at_ h.bel k (fun i hi => h.ge i hi), h.ge, _, by rw [List.length_set]; exact hown, fun i hi => ?_⟩
  rw [List.length_set] at hi
  by_cases e : q = i
  · subst e
    rw [lgetD_set_eq hq, lgetD_set_ne (by omega), lgetD_set_eq (by omega), lgetD_set_eq (by simp; omega)]
    exact ⟨rfl, hl.kp k (fun j hj => .inr hj)⟩
  · rw [lgetD_set_ne e, lgetD_set_ne (by omega), lgetD_set_ne (by omega), lgetD_set_ne (by omega), lgetD_set_ne (by omega)]
    exact ⟨(hc.2 i hi).1, (hc.2 i hi).2.kp k (fun j hj => .inr hj)⟩
theorem Eff.setM {w0 w w' : World} {ov : Value} {es : List Ef} {cs : List Value} {q : Nat} {m : Int} (h : Eff w0 w ov es) (hc : EffC w0 w ov cs es) (hq : q < es.length)
    (hown : w'.ownsRow 0 84 2 ov es.length (cs.set (q * 2 + 0) (.int .i64 m))) (k : Kp (fun b => ov.ownBlock = some b) w w') : Eff w0 w' ov (es.set q (m, (es.getD q (0, [])).2)) := by
  have hcl : cs.length = es.length * 2 := hc.1.1
  refine ⟨Below.at_ h.bel k (fun i hi => h.ge i hi), h.ge, _, by rw [List.length_set]; exact hown, fun i hi => ?_⟩
  rw [List.length_set] at hi
  by_cases e : q = i
  · subst e
    rw [lgetD_set_eq hq, Nat.add_zero, lgetD_set_eq (by omega), lgetD_set_ne (by omega)]
    exact ⟨rfl, (hc.2 q hi).2.kp k (fun j hj => .inr hj)⟩
  · rw [lgetD_set_ne e, lgetD_set_ne (by omega), lgetD_set_ne (by omega)]
    exact ⟨(hc.2 i hi).1, (hc.2 i hi).2.kp k (fun j hj => .inr hj)⟩
theorem Eff.setL {w0 w w' : World} {ov lv : Value} {es : List Ef} {cs : List Value} {q : Nat} {xs : List Int} (h : Eff w0 w ov es) (hc : EffC w0 w ov cs es) (hq : q < es.length)
    (hown : w'.ownsRow 0 84 2 ov es.length (cs.set (q * 2 + 1) lv)) (k : Kp (fun b => ov.ownBlock = some b) w w') (hl : Lf w0 w ov lv xs) : Eff w0 w' ov (es.set q ((es.getD q (0, [])).1, xs)) := by
  have hcl : cs.length = es.length * 2 := hc.1.1
  refine ⟨Below.at_ h.bel k (fun i hi => h.ge i hi), h.ge, _, by rw [List.length_set]; exact hown, fun i hi => ?_⟩
  rw [List.length_set] at hi
  by_cases e : q = i
  · subst e
    rw [lgetD_set_eq hq, lgetD_set_eq (by omega), lgetD_set_ne (by omega)]
    exact ⟨(hc.2 q hi).1, hl.kp k (fun j hj => .inr hj)⟩
  · rw [lgetD_set_ne e, lgetD_set_ne (by omega), lgetD_set_ne (by omega)]
    exact ⟨(hc.2 i hi).1, (hc.2 i hi).2.kp k (fun j hj => .inr hj)⟩
theorem Lf.oneCell {w0 w : World} {ov lv : Value} {xs : List Int} (h : Lf w0 w ov lv xs) : lv.oneCell' = true := by
  obtain ⟨A, c, rfl⟩ := Sl.sl h.sl
  rfl
/-- What the nodes from m on hold. -/
structure NInvE (l : List Nd) (dep : List Int) (mx : Bool) (lf : Int → Int) (m : Nat) (es : List Ef) : Prop where
  len : es.length = l.length
  eq : ∀ j : Nat, m ≤ j → j < l.length → es.getD j (0, []) = NE l dep mx lf es j
  good : ∀ j : Nat, m ≤ j → j < l.length → GoodE l j (es.getD j (0, [])).2
  bd : ∀ j : Nat, m ≤ j → j < l.length → 0 ≤ (es.getD j (0, [])).1 ∧ (es.getD j (0, [])).1 ≤ far
  zero : ∀ j : Nat, j < m → es.getD j (0, []) = (0, [])
theorem NInvE.kids {l : List Nd} {dep : List Int} {mx : Bool} {lf : Int → Int} {m : Nat} {es : List Ef} (h : NInvE l dep mx lf m es) (hT : TF l dep) {q : Nat} (hq : q < l.length) (hm : m ≤ q + 1) : (∀ c ∈ kid l q, GoodE l c (ed es c).2) ∧ ∀ c ∈ kid l q, 0 ≤ (ed es c).1 ∧ (ed es c).1 ≤ far := by
  refine ⟨fun c hc => ?_, fun c hc => ?_⟩
  · obtain ⟨h1, h2⟩ := Go.Proofs.Ytdiljpnfochndaa.HP.mem_kid hT hq hc
    have := h.good c.toNat (by omega) (by omega)
    rw [show ((c.toNat : Nat) : Int) = c by omega] at this
    exact this
  · obtain ⟨h1, h2⟩ := Go.Proofs.Ytdiljpnfochndaa.HP.mem_kid hT hq hc
    exact h.bd c.toNat (by omega) (by omega)
theorem NInvE.set {l : List Nd} {dep : List Int} {mx : Bool} {lf : Int → Int} {q : Nat} {es es' : List Ef} {x : Ef} (h : NInvE l dep mx lf (q + 1) es) (hT : TF l dep) (hq : q < l.length) (hlf : leafB l q = true → 0 ≤ lf q ∧ lf q ≤ far) (hx : x = NE l dep mx lf es q) (he : es' = es.set q x) : NInvE l dep mx lf q es' := by
  subst he
  obtain ⟨hk1, hk2⟩ := h.kids hT hq (Nat.le_refl _)
  have hlen := h.len
  have hc : ∀ j : Nat, q ≤ j → j < l.length → NE l dep mx lf (es.set q x) j = NE l dep mx lf es j := fun j h1 h2 => Go.Proofs.Ytdiljpnfochndaa.HP.NE_congr hT h2 fun i hi hil => lgetD_set_ne (by omega)
  refine ⟨by simpa using hlen, ?_, ?_, ?_, ?_⟩
  · intro j h1 h2
    rw [hc j h1 h2]
    by_cases e : q = j
    · subst e; rw [lgetD_set_eq (by omega)]; exact hx
    · rw [lgetD_set_ne e]; exact h.eq j (by omega) h2
  · intro j h1 h2
    by_cases e : q = j
    · subst e; rw [lgetD_set_eq (by omega), hx]; exact Go.Proofs.Ytdiljpnfochndaa.HP.NE_good hT hq hk1
    · rw [lgetD_set_ne e]; exact h.good j (by omega) h2
  · intro j h1 h2
    by_cases e : q = j
    · subst e; rw [lgetD_set_eq (by omega), hx]; exact Go.Proofs.Ytdiljpnfochndaa.HP.NE_bd hlf hk2
    · rw [lgetD_set_ne e]; exact h.bd j (by omega) h2
  · intro j h1
    rw [lgetD_set_ne (by omega)]
    exact h.zero j (by omega)
theorem Eff.frame {w0 w w' : World} {ov : Value} {es : List Ef} {b t : Nat} {cs : Array Value} (h : Eff w0 w ov es) (hb : Blk w b cs t) (hlt : b < w0.heap.size) (k : Kp (fun b => ov.ownBlock = some b) w w') : Blk w' b cs t := hb.kp k (fun e => by have := h.ge b e; omega)
theorem mk2 {α : Type} (z0 z1 : α) (n i : Nat) (h : i < n * 2) : True := trivial
end Go.Proofs.Ytdiljpnfochndaa
namespace Go.Proofs.Ytdiljpnfochndaa
open Go Go.RowKit Go.Proofs.Ytdiljpnfochndaa.VW
open Go.Proofs.Ytdiljpnfochndaa.HP (Nd kid wor leafB rd evB TF far Ef ed pickF joinF NE NeedP GoodE)
attribute [local irreducible] W Ops
theorem join_bd {es : List Ef} : ∀ (cs : List Int), (∀ c ∈ cs, 0 ≤ (ed es c).1 ∧ (ed es c).1 ≤ far) → ∀ a : Ef, 0 ≤ a.1 ∧ a.1 ≤ far → 0 ≤ (cs.foldl (joinF es) a).1 ∧ (cs.foldl (joinF es) a).1 ≤ far := by
  intro cs
  induction cs with
  | nil => intro _ a ha; exact ha
  | cons c r ih =>
    intro hc a ha
    refine ih (fun c h => hc c (by simp [h])) _ ?_
    have := hc c (by simp)
    simp only [joinF]
    omega
theorem own_cell {w : World} {g cap e sz m : Nat} {cs : List Value} (hown : w.ownsRow 0 e sz (.slice (some ⟨g, 0, none⟩) m cap) m cs) {a b : Nat} (h : a + b < m * sz) (hm : 0 < m) : w.cell? (((⟨g, 0, none⟩ : Addr).add a).add b) = some (cs.getD (a + b) undef) := by
  obtain ⟨g', cap', he, hc⟩ := own_at hown hm
  simp only [Value.slice.injEq, Option.some.injEq, Addr.mk.injEq, and_true, true_and] at he
  obtain ⟨rfl, rfl⟩ := he
  rw [add_lit, add_lit, Nat.zero_add]
  exact hc _ h
theorem Lf.new {w0 w w' : World} {ov v : Value} {ys : List Int} (h : FInv w w' v ys) (hw : w0.heap.size ≤ w.heap.size) (ho : ∀ k, ov.ownBlock = some k → k < w.heap.size) : Lf w0 w' ov v ys :=
  ⟨h.own, fun k hk => ⟨Nat.le_trans hw (h.ge k hk), fun e => by have := ho k e; have := h.ge k hk; omega⟩⟩
set_option maxRecDepth 100000 in
theorem need_c {w : World} {g : Nat} {l : List Nd} {dep : List Int} {fv : Value} {lf : Int → Int} {mx : Bool} (hG : Game w g l dep) (hT : TF l dep) (hf : Clo w fv lf (fun i => 0 ≤ i ∧ i < l.length ∧ leafB l i = true))
    (hlf : ∀ i : Nat, leafB l i = true → 0 ≤ lf i ∧ lf i ≤ far) :
    Calls Try.prog 71 #[.pointer (some ⟨g, 0, none⟩), .bool mx, fv] w (Ret fun r w' => Below w.heap.size w w' ∧ ∃ es lv, NeedP l dep mx lf es ∧ GoodE l 0 (es.getD 0 (0, [])).2 ∧ r = .agg #[.int .i64 (es.getD 0 (0, [])).1, lv] ∧ FInv w w' lv (es.getD 0 (0, [])).2) := by
  obtain ⟨tv, dv, hB, hTr, hD⟩ := hG.out
  obtain ⟨At, ct, rfl⟩ := hTr.sl
  obtain ⟨f, first, cap, rfl, hfm, hfc⟩ := hf.out
  have hn := hT.n60
  have hn1 := hT.n1
  refine calls_W (vs := [_, _, _]) Try.func71 rfl (by kernel_rfl) rfl ?_
  refine W.seq (W.region (Ops.alloc rfl rfl rfl rfl (fun w1 rb hM => ?_)))
  have hBw1 := hB.kp hM.kp (fun e => e)
  have hb01 : Below w.heap.size w w1 := hM.kp.below (Nat.le_refl _) (fun _ _ e => e)
  have hrb1 : Blk w1 rb #[.int .i64 0, .slice none 0 0] 84 := hM.at_
  have hrbe := hM.r_eq
  have hM1 := hM.size
  (repeat (first | with_reducible refine W.seq ?_ | with_reducible refine Ops.nil ?_ | with_reducible refine W.region ?_ | refine z_p (kk := ?_) | refine z_l (kk := ?_) | refine z_f (kk := ?_) | refine z_d (kk := ?_)))
  refine Ops.mkS rfl rfl rfl rfl rfl rfl rfl rfl rfl (by omega) (by simp; omega) (fun w2 dr hdr k2 hdl hown => ?_)
  simp only [Int.toNat_natCast] at hown ⊢
  have hgz : ∀ i, i < l.length → (madeCells (Value.agg #[.int .i64 0, .slice none 0 0]).cells (l.length * 2)).toList.getD (i * 2) undef = .int .i64 0 ∧ (madeCells (Value.agg #[.int .i64 0, .slice none 0 0]).cells (l.length * 2)).toList.getD (i * 2 + 1) undef = .slice none 0 0 := by
    intro i hi
    have h0 : i * 2 < l.length * 2 := by omega
    have h1 : i * 2 + 1 < l.length * 2 := by omega
    simp [madeCells, List.getD_eq_getElem?_getD, Value.cells, h0, h1, show (i * 2) % 2 = 0 by omega, show (i * 2 + 1) % 2 = 1 by omega]
  have hE0 : Eff w1 w2 (.slice (some ⟨dr, 0, none⟩) l.length l.length) (List.replicate l.length (0, [])) := by
    refine ⟨k2.below (Nat.le_refl _) (fun _ _ e => e), fun k hk => ?_, _, by simpa using hown, fun i hi => ?_⟩
    · simp [Value.ownBlock] at hk; omega
    · rw [List.length_replicate] at hi
      have hz : (List.replicate l.length ((0, []) : Ef)).getD i (0, []) = (0, []) := by rw [List.getD_eq_getElem?_getD, List.getElem?_replicate]; split <;> rfl
      rw [hz]
      refine ⟨(hgz i hi).1, ?_⟩
      have e2 := (hgz i hi).2
      exact (congrArg (fun v => Lf w1 w2 (.slice (some ⟨dr, 0, none⟩) l.length l.length) v []) e2).mpr (Lf.nil _ _ _)
  have hrb2 := hrb1.kp k2 (fun e => e)
  have hN0 : NInvE l dep mx lf l.length (List.replicate l.length (0, [])) := by
    refine ⟨by simp, fun j h1 h2 => by omega, fun j h1 h2 => by omega, fun j h1 h2 => by omega, fun j _ => ?_⟩
    rw [List.getD_eq_getElem?_getD, List.getElem?_replicate]; split <;> rfl
  have hB2 := hBw1.kp k2 (fun e => e)
  (repeat (first | with_reducible refine W.seq ?_ | with_reducible refine Ops.nil ?_ | with_reducible refine W.region ?_ | refine z_p (kk := ?_) | refine z_a (kk := ?_) | with_reducible refine W.block ?_ | refine z_l (kk := ?_) | refine z_f (kk := ?_) | refine z_d (kk := ?_)))
  clear hgz hown
  refine W.loop (fun m ρ w3 => ∃ (es : List Ef), m ≤ l.length ∧ ρ = [(0, .pointer (some ⟨g, 0, none⟩)), (1, .bool mx), (2, .func (.func f) first.toArray cap.toArray), (6, .pointer (some ⟨rb, 0, none⟩)), (7, .slice (some ⟨dr, 0, none⟩) l.length l.length), (8, .int .i64 ((m : Int) - 1))] ∧
      Eff w1 w3 (.slice (some ⟨dr, 0, none⟩) l.length l.length) es ∧ NInvE l dep mx lf m es ∧ Blk w3 rb #[.int .i64 0, .slice none 0 0] 84)
    ⟨l.length, _, ⟨_, Nat.le_refl _, rfl, hE0, hN0, hrb2⟩, (by repeat (first | exact trivial | refine And.intro rfl ?_))⟩ ?_
  clear hE0 hN0 hrb2 hB2 k2
  rintro m ρ w3 ⟨es, hm, rfl, hE, hN, hrb⟩
  have hb3 : Below w.heap.size w w3 := hb01.trans (hE.bel.mono hb01.size)
  have hG3 := hG.below hb3
  obtain ⟨tv3, dv3, hB3, hTr3, hD3⟩ := hG3.out
  have hel := hN.len
  (repeat (first | with_reducible refine W.seq ?_ | with_reducible refine Ops.nil ?_ | with_reducible refine W.region ?_ | refine z_p (kk := ?_)))
  refine W.cond rfl (fun hc => ?_) (fun hc => ?_)
  · obtain ⟨q, rfl⟩ : ∃ q, m = q + 1 := ⟨m - 1, by simp at hc; omega⟩
    have e1 : ((q + 1 : Nat) : Int) - 1 = q := by omega
    rw [e1]
    have hql : q < l.length := by omega
    obtain ⟨hkg, hkb⟩ := hN.kids hT hql (Nat.le_refl _)
    (repeat (first | with_reducible refine W.seq ?_ | with_reducible refine W.region ?_ | refine z_p (kk := ?_) | with_reducible refine W.skip ?_ | with_reducible refine W.block ?_))
    refine Ops.callS rfl rfl rfl rfl rfl (isLeaf_c hG3 q (by omega) (by omega)) ?_
    (repeat (first | with_reducible refine Ops.nil ?_ | refine z_p (kk := ?_)))
    refine W.cond rfl (fun hlf1 => ?_) (fun hlf1 => ?_)
    · (repeat (first | with_reducible refine W.region ?_ | refine z_p (kk := ?_)))
      refine Ops.call rfl rfl rfl rfl hfm (hfc q w3 hb3 ⟨by omega, by omega, hlf1⟩) (fun v w4 hR => ?_)
      obtain ⟨rfl, hb4⟩ := hR
      have k4 := Kp.of_below (S := fun _ => False) hb4
      have hE4 := hE.kp k4 (fun _ e => e.elim)
      have hrb4 := hrb.kp k4 (fun e => e)
      (repeat (first | refine z_p (kk := ?_)))
      refine Ops.bs1 rfl rfl rfl rfl rfl rfl rfl rfl rfl (fun w5 r5 hM5 => ?_)
      have hE5 := hE4.kp hM5.kp (fun _ e => e.elim)
      have hrb5 := hrb4.kp hM5.kp (fun e => e)
      have hone := own_one hM5
      have hdlt : dr < w4.heap.size := by obtain ⟨cs, hcs, _⟩ := hE4.out; exact (hcs.lt dr rfl).2
      have hL5 : Lf w1 w5 (.slice (some ⟨dr, 0, none⟩) l.length l.length) (.slice (some ⟨r5, 0, none⟩) 1 1) [(q : Int)] := by
        refine ⟨hone, fun k hk => ?_⟩
        have := hM5.r_eq
        have := hE4.bel.size
        simp [Value.ownBlock] at hk ⊢
        omega
      refine Ops.bld2 rfl rfl rfl rfl rfl rfl rfl rfl rfl ?_
      obtain ⟨cs, hcs⟩ := hE5.out
      refine Ops.wrOA rfl rfl rfl rfl rfl rfl rfl rfl rfl rfl rfl rfl (by simp) rfl rfl hcs.1 (by omega) (by omega) (fun w6 p hown6 k6 => ?_)
      have hE6 := hE5.setA hcs (by omega) hown6 k6 hL5
      have hrb6 := hE5.frame hrb5 (by omega) k6
      have hN6 := hN.set hT hql (hlf q) (x := (lf q, [(q : Int)])) (by simp [NE, hlf1]) rfl
      (repeat (first | with_reducible refine Ops.nil ?_ | with_reducible refine W.region ?_ | refine z_p (kk := ?_) | refine z_a (kk := ?_) | with_reducible refine W.endb ?_))
      exact W.endl ⟨q, _, ⟨⟨_, by omega, rfl, hE6, hN6, hrb6⟩, by omega⟩, (by repeat (first | exact trivial | refine And.intro rfl ?_))⟩
    · have hkl := hT.klen q hql
      (repeat (first | with_reducible refine W.seq ?_ | with_reducible refine W.region ?_ | refine z_p (kk := ?_)))
      refine Ops.callS rfl rfl rfl rfl rfl (atMax_c hG3 q (by omega) (by have := hT.len; omega)) ?_
      (repeat (first | with_reducible refine Ops.nil ?_ | refine z_p (kk := ?_) | refine z_e (kk := ?_)))
      have hrbe' : rb < w1.heap.size := by omega
      have hnl : ¬ leafB l q = true := by simp [hlf1]
      refine W.cond rfl (fun hev => ?_) (fun hev => ?_)
      · -- one child is enough
        obtain ⟨cs, hcs⟩ := hE.out
        (repeat (first | with_reducible refine W.seq ?_ | with_reducible refine W.region ?_ | refine z_p (kk := ?_)))
        refine Ops.wrOF rfl rfl rfl rfl rfl rfl rfl rfl rfl rfl rfl rfl rfl rfl rfl rfl rfl (by simp) (by simp) rfl hcs.1 (by omega) (by omega) (fun w4 p q' hown4 k4 => ?_)
        have hE4 := hE.setM hcs (by omega) hown4 k4
        have hrb4 := hE.frame hrb hrbe' k4
        simp only [Int.toNat_natCast] at hE4
        rw [hN.zero q (by omega)] at hE4
        have hb4 : Below w.heap.size w w4 := hb01.trans (hE4.bel.mono hb01.size)
        have hB4 := hB.kp (Kp.of_below (S := fun _ => False) hb4) (fun e => e)
        (repeat (first | with_reducible refine W.seq ?_ | with_reducible refine Ops.nil ?_ | with_reducible refine W.region ?_ | refine z_p (kk := ?_) | refine z_f (kk := ?_) | refine z_d (kk := ?_)))
        refine Ops.rdK rfl rfl rfl rfl rfl rfl rfl rfl rfl rfl rfl rfl rfl rfl rfl hTr hb4 (by omega) (by omega) (fun cv p q' hcv => ?_)
        obtain ⟨Ac, cc, rfl⟩ := Sl.sl hcv
        (repeat (first | with_reducible refine Ops.nil ?_ | refine z_p (kk := ?_) | with_reducible refine W.block ?_ | refine z_l (kk := ?_)))
        refine W.loop (fun m ρ w5 => ∃ (j : Nat), m = (kid l q).length - j ∧ j ≤ (kid l q).length ∧ ρ = [(0, .pointer (some ⟨g, 0, none⟩)), (1, .bool mx), (2, .func (.func f) first.toArray cap.toArray), (6, .pointer (some ⟨rb, 0, none⟩)), (7, .slice (some ⟨dr, 0, none⟩) l.length l.length), (8, .int .i64 q), (105, .slice Ac (kid l q).length cc), (106, .int .i64 (kid l q).length), (107, .int .i64 j)] ∧
            Eff w1 w5 (.slice (some ⟨dr, 0, none⟩) l.length l.length) (es.set q (((kid l q).take j).foldl (pickF es) (far, []))) ∧ Blk w5 rb #[.int .i64 0, .slice none 0 0] 84)
          ⟨_, _, ⟨0, rfl, Nat.zero_le _, rfl, hE4, hrb4⟩, (by repeat (first | exact trivial | refine And.intro rfl ?_))⟩ ?_
        rintro m ρ w5 ⟨j, rfl, hj, rfl, hE5, hrb5⟩
        (repeat (first | with_reducible refine W.seq ?_ | with_reducible refine Ops.nil ?_ | with_reducible refine W.region ?_ | refine z_p (kk := ?_)))
        refine W.cond rfl (fun hc => ?_) (fun hc => ?_)
        · have hlt : j < (kid l q).length := by simp at hc; omega
          have hkin := hT.kin q j hql hlt
          simp only [Go.Proofs.Ytdiljpnfochndaa.HP.k_] at hkin
          have htk : ((kid l q).take (j + 1)).foldl (pickF es) (far, []) = pickF es (((kid l q).take j).foldl (pickF es) (far, [])) ((kid l q).getD j 0) := by
            rw [Go.Proofs.Ytdiljpnfochndaa.HP.take_snoc _ _ hlt, List.foldl_append]; rfl
          (repeat (first | with_reducible refine W.seq ?_ | with_reducible refine W.region ?_ | with_reducible refine W.skip ?_ | with_reducible refine W.block ?_))
          refine Ops.rdS (enc := Value.int .i64) (z := (0 : Int)) rfl rfl rfl rfl rfl rfl rfl rfl rfl rfl rfl (Sl.below hcv (hb01.trans (hE5.bel.mono hb01.size))) (by omega) (by omega) (fun p => ?_)
          simp only [Int.toNat_natCast]
          generalize (kid l q).getD j 0 = cj at *
          generalize ((kid l q).take j).foldl (pickF es) (far, []) = acc at *
          have hsl : (es.set q acc).length = es.length := List.length_set
          have hec : (es.set q acc).getD cj.toNat (0, []) = ed es cj := lgetD_set_ne (by omega)
          have heq : (es.set q acc).getD q (0, []) = acc := lgetD_set_eq (by omega)
          (repeat (first | with_reducible refine W.seq ?_ | with_reducible refine Ops.nil ?_ | refine z_p (kk := ?_)))
          refine W.still' rfl (by kernel_rfl) (fun w6 k6 _ => ?_)
          have hE6 := hE5.kp k6 (fun _ e => e.elim)
          have hrb6 := hrb5.kp k6 (fun e => e)
          obtain ⟨cs6, hcs6⟩ := hE6.out
          have hv1 := (hcs6.2 cj.toNat (by omega)).1
          have hv2 := (hcs6.2 q (by omega)).1
          rw [hec] at hv1
          rw [heq] at hv2
          (repeat (first | refine z_p (kk := ?_)))
          refine Ops.rdOF rfl rfl rfl rfl rfl rfl rfl rfl rfl rfl rfl rfl rfl rfl rfl rfl hcs6.1 (by omega) (by omega) (fun p q' => ?_)
          have hv1' : cs6.getD (cj.toNat * 2 + 0) undef = _ := hv1
          have hv2' : cs6.getD (q * 2 + 0) undef = _ := hv2
          rw [hv1']
          (repeat (first | refine z_p (kk := ?_)))
          refine Ops.rdOF rfl rfl rfl rfl rfl rfl rfl rfl rfl rfl rfl rfl rfl rfl rfl rfl hcs6.1 (by omega) (by omega) (fun p q' => ?_)
          simp only [Int.toNat_natCast]
          rw [hv2']
          (repeat (first | refine z_p (kk := ?_)))
          refine Ops.nilS rfl ?_
          (repeat (first | with_reducible refine Ops.nil ?_))
          refine W.cond rfl (fun hlt2 => ?_) (fun hlt2 => ?_)
          · (repeat (first | with_reducible refine W.region ?_ | refine z_p (kk := ?_)))
            have hL := (hcs6.2 cj.toNat (by omega)).2
            rw [hec] at hL
            refine Ops.rdOA rfl rfl rfl rfl rfl rfl rfl rfl rfl rfl rfl rfl hcs6.1 (by omega) (by omega) (fun p => ?_)
            rw [hv1]
            refine Ops.wrOA rfl rfl rfl rfl rfl rfl rfl rfl rfl rfl rfl rfl (by simp) rfl hL.oneCell hcs6.1 (by omega) (by omega) (fun w7 p hown7 k7 => ?_)
            simp only [Int.toNat_natCast] at hown7
            have hE7 := hE6.setA hcs6 (by omega) hown7 k7 hL
            rw [List.set_set] at hE7
            have hrb7 := hE6.frame hrb6 hrbe' k7
            (repeat (first | with_reducible refine Ops.nil ?_ | with_reducible refine W.region ?_ | refine z_p (kk := ?_) | refine z_a (kk := ?_) | with_reducible refine W.endb ?_))
            refine W.endl ⟨_, _, ⟨⟨j + 1, rfl, by omega, rfl, ?_, hrb7⟩, by omega⟩, (by repeat (first | exact trivial | refine And.intro rfl ?_))⟩
            rw [htk, pickF, if_pos (by simpa using hlt2)]
            exact hE7
          · (repeat (first | with_reducible refine Ops.nil ?_ | with_reducible refine W.region ?_ | refine z_p (kk := ?_) | refine z_a (kk := ?_) | with_reducible refine W.skip ?_ | with_reducible refine W.endb ?_))
            refine W.endl ⟨_, _, ⟨⟨j + 1, rfl, by omega, rfl, ?_, hrb6⟩, by omega⟩, (by repeat (first | exact trivial | refine And.intro rfl ?_))⟩
            rw [htk, pickF, if_neg (by simpa using hlt2)]
            exact hE6
        · have hlt : j = (kid l q).length := by simp at hc; omega
          subst hlt
          rw [List.take_length] at hE5
          have hN6 := hN.set hT hql (hlf q) (x := (kid l q).foldl (pickF es) (far, [])) (by rw [NE, if_neg hnl, if_pos hev]) rfl
          (repeat (first | with_reducible refine Ops.nil ?_ | with_reducible refine W.region ?_ | refine z_p (kk := ?_) | refine z_a (kk := ?_) | with_reducible refine W.endb ?_ | refine W.exit rfl ?_))
          exact W.endl ⟨q, _, ⟨⟨_, by omega, rfl, hE5, hN6, hrb5⟩, by omega⟩, (by repeat (first | exact trivial | refine And.intro rfl ?_))⟩
      · -- all the children are needed
        have hz0 : es.set q (0, []) = es := by
          rw [← hN.zero q (by omega)]
          apply List.ext_getElem (by simp)
          intro i h1 h2
          by_cases e : q = i
          · subst e; simp [List.getD_eq_getElem?_getD, h2]
          · simp [List.getElem_set_ne e]
        have hE4 : Eff w1 w3 (.slice (some ⟨dr, 0, none⟩) l.length l.length) (es.set q (0, [])) := by rw [hz0]; exact hE
        have hB4 := hB.kp (Kp.of_below (S := fun _ => False) hb3) (fun e => e)
        (repeat (first | with_reducible refine W.seq ?_ | with_reducible refine W.region ?_ | refine z_p (kk := ?_) | refine z_f (kk := ?_) | refine z_d (kk := ?_)))
        refine Ops.rdK rfl rfl rfl rfl rfl rfl rfl rfl rfl rfl rfl rfl rfl rfl rfl hTr hb3 (by omega) (by omega) (fun cv p q' hcv => ?_)
        obtain ⟨Ac, cc, rfl⟩ := Sl.sl hcv
        (repeat (first | with_reducible refine Ops.nil ?_ | refine z_p (kk := ?_) | with_reducible refine W.block ?_ | refine z_l (kk := ?_)))
        refine W.loop (fun m ρ w5 => ∃ (j : Nat), m = (kid l q).length - j ∧ j ≤ (kid l q).length ∧ ρ = [(0, .pointer (some ⟨g, 0, none⟩)), (1, .bool mx), (2, .func (.func f) first.toArray cap.toArray), (6, .pointer (some ⟨rb, 0, none⟩)), (7, .slice (some ⟨dr, 0, none⟩) l.length l.length), (8, .int .i64 q), (36, .slice Ac (kid l q).length cc), (37, .int .i64 (kid l q).length), (38, .int .i64 j)] ∧
            Eff w1 w5 (.slice (some ⟨dr, 0, none⟩) l.length l.length) (es.set q (((kid l q).take j).foldl (joinF es) (0, []))) ∧ Blk w5 rb #[.int .i64 0, .slice none 0 0] 84)
          ⟨_, _, ⟨0, rfl, Nat.zero_le _, rfl, hE4, hrb⟩, (by repeat (first | exact trivial | refine And.intro rfl ?_))⟩ ?_
        rintro m ρ w5 ⟨j, rfl, hj, rfl, hE5, hrb5⟩
        (repeat (first | with_reducible refine W.seq ?_ | with_reducible refine Ops.nil ?_ | with_reducible refine W.region ?_ | refine z_p (kk := ?_)))
        refine W.cond rfl (fun hc => ?_) (fun hc => ?_)
        · have hlt : j < (kid l q).length := by simp at hc; omega
          have hkin := hT.kin q j hql hlt
          simp only [Go.Proofs.Ytdiljpnfochndaa.HP.k_] at hkin
          have htk : ((kid l q).take (j + 1)).foldl (joinF es) (0, []) = joinF es (((kid l q).take j).foldl (joinF es) (0, [])) ((kid l q).getD j 0) := by
            rw [Go.Proofs.Ytdiljpnfochndaa.HP.take_snoc _ _ hlt, List.foldl_append]; rfl
          have hmc : (kid l q).getD j 0 ∈ kid l q := by
            rw [List.getD_eq_getElem?_getD, List.getElem?_eq_getElem (by omega)]
            simp
          have hjb := join_bd (es := es) ((kid l q).take j) (fun c hc => hkb c (List.mem_of_mem_take hc)) (0, []) ⟨by decide, by decide⟩
          have hgl1 := (Go.Proofs.Ytdiljpnfochndaa.HP.good_join hT hql hkg (j + 1) (by omega)).1.len
          rw [htk] at hgl1
          have hcb := hkb _ hmc
          (repeat (first | with_reducible refine W.seq ?_ | with_reducible refine W.region ?_ | with_reducible refine W.skip ?_ | with_reducible refine W.block ?_))
          refine Ops.rdS (enc := Value.int .i64) (z := (0 : Int)) rfl rfl rfl rfl rfl rfl rfl rfl rfl rfl rfl (Sl.below hcv (hb01.trans (hE5.bel.mono hb01.size))) (by omega) (by omega) (fun p => ?_)
          simp only [Int.toNat_natCast]
          generalize (kid l q).getD j 0 = cj at *
          generalize ((kid l q).take j).foldl (joinF es) (0, []) = acc at *
          have hsl : (es.set q acc).length = es.length := List.length_set
          have hec : (es.set q acc).getD cj.toNat (0, []) = ed es cj := lgetD_set_ne (by omega)
          have heq : (es.set q acc).getD q (0, []) = acc := lgetD_set_eq (by omega)
          (repeat (first | with_reducible refine W.seq ?_ | with_reducible refine Ops.nil ?_ | refine z_p (kk := ?_)))
          refine W.tail' 14 rfl (by kernel_rfl) (fun w6 k6 _ => ?_)
          have hE6 := hE5.kp k6 (fun _ e => e.elim)
          have hrb6 := hrb5.kp k6 (fun e => e)
          obtain ⟨cs6, hcs6⟩ := hE6.out
          have hv1 := (hcs6.2 cj.toNat (by omega)).1
          have hv2 := (hcs6.2 q (by omega)).1
          rw [hec] at hv1
          rw [heq] at hv2
          (repeat (first | refine z_p (kk := ?_)))
          refine Ops.rdOF rfl rfl rfl rfl rfl rfl rfl rfl rfl rfl rfl rfl rfl rfl rfl rfl hcs6.1 (by omega) (by omega) (fun p q' => ?_)
          have hv1' : cs6.getD (cj.toNat * 2 + 0) undef = _ := hv1
          have hv2' : cs6.getD (q * 2 + 0) undef = _ := hv2
          simp only [Int.toNat_natCast]
          rw [hv2']
          (repeat (first | refine z_p (kk := ?_)))
          refine Ops.rdOF rfl rfl rfl rfl rfl rfl rfl rfl rfl rfl rfl rfl rfl rfl rfl rfl hcs6.1 (by omega) (by omega) (fun p q' => ?_)
          rw [hv1']
          have hfar : far = 1099511627776 := rfl
          (repeat (first | refine z_a (kk := ?_) | refine z_m (kk := ?_)))
          refine Ops.nilS rfl ?_
          refine Ops.wrOF rfl rfl rfl rfl rfl rfl rfl rfl rfl rfl rfl rfl rfl rfl rfl rfl rfl (by simp) (by simp) rfl hcs6.1 (by omega) (by omega) (fun w7 p q' hown7 k7 => ?_)
          have hE7 := hE6.setM hcs6 (by omega) hown7 k7
          have hrb7 := hE6.frame hrb6 hrbe' k7
          simp only [Int.toNat_natCast] at hE7
          rw [heq, List.set_set] at hE7
          have hsl7 : (es.set q (Min.min 1099511627776 (acc.1 + (ed es cj).1), acc.2)).length = es.length := List.length_set
          have hec7 : (es.set q (Min.min 1099511627776 (acc.1 + (ed es cj).1), acc.2)).getD cj.toNat (0, []) = ed es cj := lgetD_set_ne (by omega)
          have heq7 : (es.set q (Min.min 1099511627776 (acc.1 + (ed es cj).1), acc.2)).getD q (0, []) = (Min.min 1099511627776 (acc.1 + (ed es cj).1), acc.2) := lgetD_set_eq (by omega)
          obtain ⟨cs7, hcs7⟩ := hE7.out
          have h71 := hcs7.1
          rw [hsl7, hel] at h71
          have hlq : q * 2 + 1 < l.length * 2 := by omega
          have hlc : cj.toNat * 2 + 1 < l.length * 2 := by omega
          have hl0 : 0 < l.length := by omega
          (repeat (first | with_reducible refine Ops.nil ?_))
          refine W.ord 16 (fun w' => w'.ownsRow 0 84 2 (.slice (some ⟨dr, 0, none⟩) l.length l.length) l.length cs7) [(0,1),(1,1),(2,1),(3,1),(4,1),(5,1),(6,2),(7,1),(8,1),(9,1),(10,1),(11,2),(12,0),(13,0),(14,0),(15,0),(16,0)] rfl (by kernel_rfl) rfl (by kernel_rfl) (fun w8 k8 _ => ⟨own_kp h71 k8 (fun _ _ e => e.elim), ?_⟩)
          have hE8 := hE7.kp k8 (fun _ e => e.elim)
          have hrb8 := hrb7.kp k8 (fun e => e)
          have h81 := own_kp h71 k8 (fun _ _ e => e.elim)
          have hcs8 : EffC w1 w8 _ cs7 _ := ⟨own_kp hcs7.1 k8 (fun _ _ e => e.elim), fun i hi => ⟨(hcs7.2 i hi).1, (hcs7.2 i hi).2.kp k8 (fun _ e => e.elim)⟩⟩
          refine Ord.take rfl rfl rfl (fun _ _ _ h => h) (fun _ => EV.pu rfl) ?_
          refine Ord.take rfl rfl rfl (fun _ _ _ h => h) (fun _ => EV.pu rfl) ?_
          refine Ord.take rfl rfl rfl (fun _ _ _ h => h) (fun _ => EV.pu rfl) ?_
          refine Ord.take rfl rfl rfl (fun _ _ _ h => h) (fun _ => EV.pu rfl) ?_
          refine Ord.take rfl rfl rfl (fun _ _ _ h => h) (fun _ => EV.idx rfl rfl rfl rfl rfl (by omega) (by omega)) ?_
          refine Ord.take rfl rfl rfl (fun _ _ _ h => h) (fun _ => EV.fld rfl rfl rfl) ?_
          refine Ord.read rfl rfl rfl (fun _ _ _ h => h) (fun w' hF => EV.ld rfl rfl rfl (own_cell hF hlq hl0)) ?_
          refine Ord.take rfl rfl rfl (fun _ _ _ h => h) (fun _ => EV.pu rfl) ?_
          refine Ord.take rfl rfl rfl (fun _ _ _ h => h) (fun _ => EV.pu rfl) ?_
          refine Ord.take rfl rfl rfl (fun _ _ _ h => h) (fun _ => EV.idx rfl rfl rfl rfl rfl (by omega) (by omega)) ?_
          refine Ord.take rfl rfl rfl (fun _ _ _ h => h) (fun _ => EV.fld rfl rfl rfl) ?_
          refine Ord.read rfl rfl rfl (fun _ _ _ h => h) (fun w' hF => EV.ld rfl rfl rfl (own_cell hF hlc hl0)) ?_
          have hLq := (hcs8.2 q (by omega)).2
          have hLc := (hcs8.2 cj.toNat (by omega)).2
          rw [heq7] at hLq
          rw [hec7] at hLc
          refine Ord.eff rfl ?_
          refine Ops.bs2 rfl rfl rfl rfl rfl rfl rfl rfl rfl hLq.oneCell hLc.oneCell (fun w9 r9 hM9 => ?_)
          refine Ops.nil (W.endl ⟨fun _ => own_kp h81 hM9.kp (fun _ _ e => e.elim), ?_⟩)
          have h91 := own_kp h81 hM9.kp (fun _ _ e => e.elim)
          have hcs9 : EffC w1 w9 _ cs7 _ := ⟨own_kp hcs8.1 hM9.kp (fun _ _ e => e.elim), fun i hi => ⟨(hcs8.2 i hi).1, (hcs8.2 i hi).2.kp hM9.kp (fun _ e => e.elim)⟩⟩
          have hrb9 := hrb8.kp hM9.kp (fun e => e)
          have hLq9 := hLq.kp hM9.kp (fun _ e => e.elim)
          have hLc9 := hLc.kp hM9.kp (fun _ e => e.elim)
          have hdl9 : dr < w9.heap.size := (hcs9.1.lt dr rfl).2
          refine Ord.eff rfl ?_
          refine Ops.call rfl rfl rfl rfl rfl (concat_c (svs := [_, _]) (xss := [acc.2, (ed es cj).2]) hM9.at_ rfl (fun j hj => ?_) (by simp only [joinF, List.length_append] at hgl1; simp only [List.flatten_cons, List.flatten_nil, List.append_nil, List.length_append]; omega) (by simp)) (fun v w10 hI => ?_)
          · rcases j with _ | _ | j
            · exact hLq9.sl
            · exact hLc9.sl
            · simp at hj; omega
          have k10 : Kp (fun _ => False) w9 w10 := Kp.of_below hI.bel
          have h101 := own_kp h91 k10 (fun _ _ e => e.elim)
          have hcs10 : EffC w1 w10 _ cs7 _ := ⟨own_kp hcs9.1 k10 (fun _ _ e => e.elim), fun i hi => ⟨(hcs9.2 i hi).1, (hcs9.2 i hi).2.kp k10 (fun _ e => e.elim)⟩⟩
          have hE10 : Eff w1 w10 (.slice (some ⟨dr, 0, none⟩) l.length l.length) (es.set q (Min.min 1099511627776 (acc.1 + (ed es cj).1), acc.2)) := (hE8.kp hM9.kp (fun _ e => e.elim)).kp k10 (fun _ e => e.elim)
          have hrb10 := hrb9.kp k10 (fun e => e)
          have hLv : Lf w1 w10 (.slice (some ⟨dr, 0, none⟩) l.length l.length) v (acc.2 ++ (ed es cj).2) := by
            have := Lf.new (w0 := w1) (ov := .slice (some ⟨dr, 0, none⟩) l.length l.length) hI (by have := hM9.size; have := hE8.bel.size; omega) (fun k hk => by simp [Value.ownBlock] at hk; omega)
            simpa using this
          refine Ops.nil (W.endl ⟨fun _ => h101, ?_⟩)
          obtain ⟨g', cap', cur, hsl', hBd, hszd⟩ := own_blk h101 hl0
          simp only [Value.slice.injEq, Option.some.injEq, Addr.mk.injEq, and_true, true_and] at hsl'
          obtain ⟨rfl, _, rfl⟩ := hsl'
          refine Ord.eff rfl ?_
          refine Ops.idx rfl rfl rfl rfl rfl rfl rfl (by omega) (by omega) ?_
          refine Ops.nil (W.endl ⟨fun _ => h101, ?_⟩)
          refine Ord.eff rfl ?_
          refine Ops.fld rfl rfl rfl rfl rfl ?_
          refine Ops.nil (W.endl ⟨fun _ => h101, ?_⟩)
          refine Ord.eff rfl ?_
          rw [add_lit, add_lit, Nat.zero_add]
          refine Ops.st rfl rfl rfl rfl rfl rfl hLv.oneCell hBd (by simp; omega) (fun w11 hu => ?_)
          refine Ops.nil (W.endl ⟨fun h => absurd h (by simp), ?_⟩)
          have h111 := own_set h101 hBd hu
          have k11 : Kp (fun b => (Value.slice (some ⟨dr, 0, none⟩) l.length l.length).ownBlock = some b) w10 w11 := hu.kp.mono (fun i _ e => by simp [Value.ownBlock, e])
          have hE11 := hE10.setL hcs10 (q := q) (by omega) (by rw [hsl7, hel]; exact h111) k11 hLv
          have hrb11 := hE10.frame hrb10 hrbe' k11
          rw [heq7, List.set_set] at hE11
          refine Ord.nil ?_
          (repeat (first | with_reducible refine Ops.nil ?_ | with_reducible refine W.region ?_ | refine z_p (kk := ?_) | refine z_a (kk := ?_) | with_reducible refine W.endb ?_))
          exact W.endl ⟨_, _, ⟨⟨j + 1, rfl, by omega, rfl, by rw [htk]; exact hE11, hrb11⟩, by omega⟩, (by repeat (first | exact trivial | refine And.intro rfl ?_))⟩
        · have hlt : j = (kid l q).length := by simp at hc; omega
          subst hlt
          rw [List.take_length] at hE5
          have hN6 := hN.set hT hql (hlf q) (x := (kid l q).foldl (joinF es) (0, [])) (by rw [NE, if_neg hnl, if_neg (by rw [hev]; simp)]) rfl
          (repeat (first | with_reducible refine Ops.nil ?_ | with_reducible refine W.region ?_ | refine z_p (kk := ?_) | refine z_a (kk := ?_) | with_reducible refine W.endb ?_ | refine W.exit rfl ?_))
          exact W.endl ⟨q, _, ⟨⟨_, by omega, rfl, hE5, hN6, hrb5⟩, by omega⟩, (by repeat (first | exact trivial | refine And.intro rfl ?_))⟩
  · obtain rfl : m = 0 := by simp at hc; omega
    obtain ⟨cs, hcs⟩ := hE.out
    (repeat (first | with_reducible refine W.seq ?_ | with_reducible refine W.region ?_ | refine z_p (kk := ?_) | refine W.exit rfl ?_))
    refine Ops.rdOA rfl rfl rfl rfl rfl rfl rfl rfl rfl rfl rfl rfl hcs.1 (by omega) (by omega) (fun p => ?_)
    have h0 := hcs.2 0 (by omega)
    simp only [Int.toNat_natCast, Int.toNat_zero, Nat.zero_mul, Nat.zero_add] at h0 ⊢
    have hone : ((cs.getD 0 undef).oneCell' = true) := by rw [h0.1]; rfl
    refine Ops.st2 rfl rfl rfl rfl rfl rfl hone h0.2.oneCell hrb (fun w4 hu => ?_)
    (repeat (first | with_reducible refine Ops.nil ?_))
    have hrbe' : rb < w1.heap.size := by omega
    have hL4 : Lf w1 w4 (.slice (some ⟨dr, 0, none⟩) l.length l.length) (cs.getD 1 undef) (es.getD 0 (0, [])).2 :=
      ⟨own_kp h0.2.1 hu.kp (fun i hi e => by have := (h0.2.2 i hi).1; omega), h0.2.2⟩
    have hb4 : Below w.heap.size w w4 := Below.at_ hb3 hu.kp (fun i hi => by omega)
    refine W.fretC2 rfl rfl rfl rfl hu.blk ⟨hb4, es, _, ⟨hN.len, fun j hj => hN.eq j (Nat.zero_le _) hj⟩, hN.good 0 (Nat.le_refl _) (by omega), by rw [h0.1], ⟨hb4, hL4.1, fun k hk => by have := (hL4.2 k hk).1; omega⟩⟩
end Go.Proofs.Ytdiljpnfochndaa
