/- A part of the walk: what this seat's statements share. -/
import Derived.Test.YtdiljpnfochndaaZG6
set_option linter.unusedVariables false
set_option linter.unusedSimpArgs false
set_option linter.unusedSectionVars false
namespace Go.Proofs.Ytdiljpnfochndaa
open Go Go.RowKit Go.Proofs.Ytdiljpnfochndaa.VW
open Go.Proofs.Ytdiljpnfochndaa.HP (Nd kid wor leafB rd modM modM_bd chM chM_len rounds tameM tameN addKid)
attribute [local irreducible] W Ops
theorem wrap_u (x : Int) : IntKind.u64.wrap x = x % 18446744073709551616 := by
  simp [IntKind.wrap, IntKind.bits, IntKind.signed]
theorem wrap_i {x : Int} (h0 : 0 ≤ x) (h1 : x < 9223372036854775808) : IntKind.i64.wrap x = x := by
  have : x % 18446744073709551616 = x := by omega
  simp [IntKind.wrap, IntKind.bits, IntKind.signed, this]
  omega
theorem mod_c (x n : Int) (w : World) (h0 : 0 < n) (h1 : n < 9223372036854775808) : Calls Try.prog 34 #[.int .i64 x, .int .i64 n] w (Ret fun r w' => r = .int .i64 (modM x n) ∧ w' = w) := by
  refine calls_W (vs := [_, _]) Try.func34 rfl (by kernel_rfl) rfl ?_
  (repeat (first | with_reducible refine W.seq ?_ | with_reducible refine Ops.nil ?_ | with_reducible refine W.region ?_ | refine Ops.pu rfl rfl rfl ?_ | refine Ops.ar rfl rfl rfl (by omega) ?_ | refine Ops.yes rfl rfl rfl ?_ | refine Ops.no rfl rfl rfl rfl rfl ?_ | refine Ops.nu rfl rfl rfl rfl ?_ | with_reducible refine W.skip ?_ | with_reducible refine W.endb ?_ | with_reducible refine W.block ?_ | refine W.exit rfl ?_ | refine Ops.len rfl rfl rfl rfl rfl ?_ | refine Ops.flp rfl rfl rfl rfl rfl ?_ | refine Ops.max rfl rfl rfl rfl rfl ?_ | refine Ops.min rfl rfl rfl rfl rfl ?_ | refine Ops.eqB rfl rfl rfl rfl rfl rfl ?_ | refine Ops.neB rfl rfl rfl rfl rfl rfl ?_ | (apply Ops.ldB rfl rfl rfl rfl rfl; assumption; rfl)))
  refine Ops.cv rfl rfl rfl rfl rfl rfl ?_
  (repeat (first | with_reducible refine W.seq ?_ | with_reducible refine Ops.nil ?_ | with_reducible refine W.region ?_ | refine Ops.pu rfl rfl rfl ?_ | refine Ops.ar rfl rfl rfl (by omega) ?_ | refine Ops.yes rfl rfl rfl ?_ | refine Ops.no rfl rfl rfl rfl rfl ?_ | refine Ops.nu rfl rfl rfl rfl ?_ | with_reducible refine W.skip ?_ | with_reducible refine W.endb ?_ | with_reducible refine W.block ?_ | refine W.exit rfl ?_ | refine Ops.len rfl rfl rfl rfl rfl ?_ | refine Ops.flp rfl rfl rfl rfl rfl ?_ | refine Ops.max rfl rfl rfl rfl rfl ?_ | refine Ops.min rfl rfl rfl rfl rfl ?_ | refine Ops.eqB rfl rfl rfl rfl rfl rfl ?_ | refine Ops.neB rfl rfl rfl rfl rfl rfl ?_ | (apply Ops.ldB rfl rfl rfl rfl rfl; assumption; rfl)))
  refine Ops.cv rfl rfl rfl rfl rfl rfl ?_
  have hn : IntKind.u64.wrap n = n := by rw [wrap_u]; omega
  refine Ops.remK rfl rfl rfl rfl rfl (by rw [hn]; omega) ?_
  refine Ops.cv rfl rfl rfl rfl rfl rfl ?_
  (repeat (first | with_reducible refine W.seq ?_ | with_reducible refine Ops.nil ?_ | with_reducible refine W.region ?_ | refine Ops.pu rfl rfl rfl ?_ | refine Ops.ar rfl rfl rfl (by omega) ?_ | refine Ops.yes rfl rfl rfl ?_ | refine Ops.no rfl rfl rfl rfl rfl ?_ | refine Ops.nu rfl rfl rfl rfl ?_ | with_reducible refine W.skip ?_ | with_reducible refine W.endb ?_ | with_reducible refine W.block ?_ | refine W.exit rfl ?_ | refine Ops.len rfl rfl rfl rfl rfl ?_ | refine Ops.flp rfl rfl rfl rfl rfl ?_ | refine Ops.max rfl rfl rfl rfl rfl ?_ | refine Ops.min rfl rfl rfl rfl rfl ?_ | refine Ops.eqB rfl rfl rfl rfl rfl rfl ?_ | refine Ops.neB rfl rfl rfl rfl rfl rfl ?_ | (apply Ops.ldB rfl rfl rfl rfl rfl; assumption; rfl)))
  refine W.fret rfl ⟨?_, rfl⟩
  have hb := modM_bd x h0
  show Value.int .i64 _ = _
  rw [hn, wrap_u, Int.tmod_eq_emod_of_nonneg (Int.emod_nonneg _ (by omega))]
  exact congrArg _ (wrap_i hb.1 (Int.lt_trans hb.2 h1))
def pickL (p : Nat → Bool) (n : Nat) : List Int := ((List.range n).filter p).map fun (i : Nat) => (i : Int)
theorem pickL_succ (p : Nat → Bool) (n : Nat) : pickL p (n + 1) = pickL p n ++ if p n then [(n : Int)] else [] := by
  unfold pickL
  rw [List.range_succ, List.filter_append, List.map_append]
  congr 1
  by_cases h : p n <;> simp [h]
theorem pickL_len (p : Nat → Bool) (n : Nat) : (pickL p n).length ≤ n := by
  unfold pickL
  rw [List.length_map]
  exact Nat.le_trans (List.length_filter_le _ _) (by simp)
theorem leafB_len (l : List Nd) (i : Int) : leafB l i = (((kid l i).length : Int) == 0) := by
  unfold leafB
  cases kid l i with
  | nil => rfl
  | cons a r => simp; omega
def someP (l : List Nd) (os : List Int) (i : Nat) : Bool := leafB l i && decide (i < os.length) && (modM (os.getD i 0) 2 == 1)
theorem some_c {w : World} {v ov : Value} {l : List Nd} {os : List Int} (hT : TreeM w v l) (hn : l.length ≤ 60) (ho : SlI w ov os) :
    Calls Try.prog 36 #[v, ov] w (Ret fun r w' => FInv w w' r (pickL (someP l os) l.length)) := by
  obtain ⟨A, c, rfl⟩ := hT.sl
  have hol := Sl.len ho
  obtain ⟨A2, c2, rfl⟩ := Sl.sl ho
  refine calls_W (vs := [_, _]) Try.func36 rfl (by kernel_rfl) rfl ?_
  (repeat (first | with_reducible refine W.seq ?_ | with_reducible refine Ops.nil ?_ | with_reducible refine W.region ?_ | refine Ops.pu rfl rfl rfl ?_ | refine Ops.ar rfl rfl rfl (by omega) ?_ | refine Ops.yes rfl rfl rfl ?_ | refine Ops.no rfl rfl rfl rfl rfl ?_ | refine Ops.nu rfl rfl rfl rfl ?_ | with_reducible refine W.skip ?_ | with_reducible refine W.endb ?_ | with_reducible refine W.block ?_ | refine W.exit rfl ?_ | refine Ops.len rfl rfl rfl rfl rfl ?_ | refine Ops.flp rfl rfl rfl rfl rfl ?_ | refine Ops.max rfl rfl rfl rfl rfl ?_ | refine Ops.min rfl rfl rfl rfl rfl ?_ | refine Ops.eqB rfl rfl rfl rfl rfl rfl ?_ | refine Ops.neB rfl rfl rfl rfl rfl rfl ?_ | (apply Ops.ldB rfl rfl rfl rfl rfl; assumption; rfl)))
  refine W.loop (fun m ρ w3 => ∃ (j : Nat) (lv : Value), m = l.length - j ∧ j ≤ l.length ∧ ρ = [(0, .slice A l.length c), (1, .slice A2 os.length c2), (5, lv), (6, .int .i64 j)] ∧ FInv w w3 lv (pickL (someP l os) j))
    ⟨_, _, ⟨0, _, rfl, Nat.zero_le _, rfl, FInv.nil (Below.refl _ _)⟩, (by repeat (first | exact trivial | refine And.intro rfl ?_))⟩ ?_
  rintro m ρ w3 ⟨j, lv, rfl, hj, rfl, hI⟩
  have hb3 := hI.bel
  have ho3 := Sl.below ho hb3
  have hpl := pickL_len (someP l os) j
  (repeat (first | with_reducible refine W.seq ?_ | with_reducible refine Ops.nil ?_ | with_reducible refine W.region ?_ | refine Ops.pu rfl rfl rfl ?_ | refine Ops.ar rfl rfl rfl (by omega) ?_ | refine Ops.yes rfl rfl rfl ?_ | refine Ops.no rfl rfl rfl rfl rfl ?_ | refine Ops.nu rfl rfl rfl rfl ?_ | with_reducible refine W.skip ?_ | with_reducible refine W.endb ?_ | with_reducible refine W.block ?_ | refine W.exit rfl ?_ | refine Ops.len rfl rfl rfl rfl rfl ?_ | refine Ops.flp rfl rfl rfl rfl rfl ?_ | refine Ops.max rfl rfl rfl rfl rfl ?_ | refine Ops.min rfl rfl rfl rfl rfl ?_ | refine Ops.eqB rfl rfl rfl rfl rfl rfl ?_ | refine Ops.neB rfl rfl rfl rfl rfl rfl ?_ | (apply Ops.ldB rfl rfl rfl rfl rfl; assumption; rfl)))
  refine W.cond rfl (fun hc => ?_) (fun hc => ?_)
  · have hlt : j < l.length := by simp at hc; omega
    (repeat (first | with_reducible refine W.seq ?_ | with_reducible refine Ops.nil ?_ | with_reducible refine W.region ?_ | refine Ops.pu rfl rfl rfl ?_ | refine Ops.ar rfl rfl rfl (by omega) ?_ | refine Ops.yes rfl rfl rfl ?_ | refine Ops.no rfl rfl rfl rfl rfl ?_ | refine Ops.nu rfl rfl rfl rfl ?_ | with_reducible refine W.skip ?_ | with_reducible refine W.endb ?_ | with_reducible refine W.block ?_ | refine W.exit rfl ?_ | refine Ops.len rfl rfl rfl rfl rfl ?_ | refine Ops.flp rfl rfl rfl rfl rfl ?_ | refine Ops.max rfl rfl rfl rfl rfl ?_ | refine Ops.min rfl rfl rfl rfl rfl ?_ | refine Ops.eqB rfl rfl rfl rfl rfl rfl ?_ | refine Ops.neB rfl rfl rfl rfl rfl rfl ?_ | (apply Ops.ldB rfl rfl rfl rfl rfl; assumption; rfl)))
    refine Ops.rdK rfl rfl rfl rfl rfl rfl rfl rfl rfl rfl rfl rfl rfl rfl rfl hT hb3 (by omega) (by omega) (fun cv p q hcv => ?_)
    obtain ⟨Ac, cc, rfl⟩ := Sl.sl hcv
    refine Ops.cut (fun ρ w' => ∃ b : Bool, ρ = [(0, .slice A l.length c), (1, .slice A2 os.length c2), (5, lv), (6, .int .i64 j), (33, .bool b)] ∧ w' = w3 ∧ b = someP l os j) ?_ ?_
    · (repeat' (first | with_reducible refine W.seq ?_ | with_reducible refine Ops.nil ?_ | with_reducible refine W.region ?_ | refine Ops.pu rfl rfl rfl ?_ | refine Ops.ar rfl rfl rfl (by omega) ?_ | refine Ops.yes rfl rfl rfl ?_ | refine Ops.no rfl rfl rfl rfl rfl ?_ | refine Ops.nu rfl rfl rfl rfl ?_ | with_reducible refine W.skip ?_ | with_reducible refine W.endb ?_ | with_reducible refine W.block ?_ | refine W.exit rfl ?_ | refine Ops.len rfl rfl rfl rfl rfl ?_ | refine Ops.flp rfl rfl rfl rfl rfl ?_ | refine Ops.max rfl rfl rfl rfl rfl ?_ | refine Ops.min rfl rfl rfl rfl rfl ?_ | refine Ops.eqB rfl rfl rfl rfl rfl rfl ?_ | refine Ops.neB rfl rfl rfl rfl rfl rfl ?_ | (apply Ops.ldB rfl rfl rfl rfl rfl; assumption; rfl) | refine Ops.gdT rfl rfl rfl rfl (fun _ => ?_) (fun _ => ?_) | refine Ops.gdF rfl rfl rfl rfl (fun _ => ?_) (fun _ => ?_) | refine Ops.callS rfl rfl rfl rfl rfl (mod_c _ _ _ (by decide) (by decide)) ?_ | (refine Ops.rdSg (enc := Value.int .i64) (z := (0 : Int)) rfl rfl rfl rfl rfl rfl rfl rfl rfl rfl rfl rfl rfl rfl ho3 (by omega) (by rename_i hh; simp at hh; omega) (fun p => ?_))))
      all_goals refine W.endl ⟨_, ⟨_, rfl, rfl, ?_⟩, (by repeat (first | exact trivial | refine And.intro rfl ?_))⟩
      all_goals clear ho ho3 hI hT hcv
      · rename_i h1 h2
        unfold someP
        rw [leafB_len, h1, show decide (j < os.length) = true by simpa using h2]
        rfl
      · rename_i h1 h2
        unfold someP
        rw [leafB_len, h1, show decide (j < os.length) = false by simpa using h2]
        rfl
      · rename_i h1
        unfold someP
        rw [leafB_len, h1]
        rfl
    · rintro ρ w4 ⟨b, rfl, rfl, hb⟩
      (repeat (first | with_reducible refine W.seq ?_ | with_reducible refine Ops.nil ?_ | with_reducible refine W.region ?_ | refine Ops.pu rfl rfl rfl ?_ | refine Ops.ar rfl rfl rfl (by omega) ?_ | refine Ops.yes rfl rfl rfl ?_ | refine Ops.no rfl rfl rfl rfl rfl ?_ | refine Ops.nu rfl rfl rfl rfl ?_ | with_reducible refine W.skip ?_ | with_reducible refine W.endb ?_ | with_reducible refine W.block ?_ | refine W.exit rfl ?_ | refine Ops.len rfl rfl rfl rfl rfl ?_ | refine Ops.flp rfl rfl rfl rfl rfl ?_ | refine Ops.max rfl rfl rfl rfl rfl ?_ | refine Ops.min rfl rfl rfl rfl rfl ?_ | refine Ops.eqB rfl rfl rfl rfl rfl rfl ?_ | refine Ops.neB rfl rfl rfl rfl rfl rfl ?_ | (apply Ops.ldB rfl rfl rfl rfl rfl; assumption; rfl)))
      have hs := pickL_succ (someP l os) j
      rw [← hb] at hs
      refine W.cond rfl (fun hc2 => ?_) (fun hc2 => ?_)
      · rw [hc2, if_pos rfl] at hs
        (repeat (first | with_reducible refine W.seq ?_ | with_reducible refine Ops.nil ?_ | with_reducible refine W.region ?_ | refine Ops.pu rfl rfl rfl ?_ | refine Ops.ar rfl rfl rfl (by omega) ?_ | refine Ops.yes rfl rfl rfl ?_ | refine Ops.no rfl rfl rfl rfl rfl ?_ | refine Ops.nu rfl rfl rfl rfl ?_ | with_reducible refine W.skip ?_ | with_reducible refine W.endb ?_ | with_reducible refine W.block ?_ | refine W.exit rfl ?_ | refine Ops.len rfl rfl rfl rfl rfl ?_ | refine Ops.flp rfl rfl rfl rfl rfl ?_ | refine Ops.max rfl rfl rfl rfl rfl ?_ | refine Ops.min rfl rfl rfl rfl rfl ?_ | refine Ops.eqB rfl rfl rfl rfl rfl rfl ?_ | refine Ops.neB rfl rfl rfl rfl rfl rfl ?_ | (apply Ops.ldB rfl rfl rfl rfl rfl; assumption; rfl)))
        refine Ops.push rfl rfl rfl rfl rfl rfl rfl rfl rfl rfl rfl rfl (fun _ => rfl) rfl hI.own (by omega) (fun lv' p w5 ho5 k5 hn5 => ?_)
        have hI5 := hI.push ho5 k5 hn5
        rw [← hs] at hI5
        (repeat (first | with_reducible refine W.seq ?_ | with_reducible refine Ops.nil ?_ | with_reducible refine W.region ?_ | refine Ops.pu rfl rfl rfl ?_ | refine Ops.ar rfl rfl rfl (by omega) ?_ | refine Ops.yes rfl rfl rfl ?_ | refine Ops.no rfl rfl rfl rfl rfl ?_ | refine Ops.nu rfl rfl rfl rfl ?_ | with_reducible refine W.skip ?_ | with_reducible refine W.endb ?_ | with_reducible refine W.block ?_ | refine W.exit rfl ?_ | refine Ops.len rfl rfl rfl rfl rfl ?_ | refine Ops.flp rfl rfl rfl rfl rfl ?_ | refine Ops.max rfl rfl rfl rfl rfl ?_ | refine Ops.min rfl rfl rfl rfl rfl ?_ | refine Ops.eqB rfl rfl rfl rfl rfl rfl ?_ | refine Ops.neB rfl rfl rfl rfl rfl rfl ?_ | (apply Ops.ldB rfl rfl rfl rfl rfl; assumption; rfl)))
        exact W.endl ⟨_, _, ⟨⟨j + 1, _, rfl, by omega, rfl, hI5⟩, by omega⟩, (by repeat (first | exact trivial | refine And.intro rfl ?_))⟩
      · rw [hc2, if_neg (by simp), List.append_nil] at hs
        rw [← hs] at hI
        (repeat (first | with_reducible refine W.seq ?_ | with_reducible refine Ops.nil ?_ | with_reducible refine W.region ?_ | refine Ops.pu rfl rfl rfl ?_ | refine Ops.ar rfl rfl rfl (by omega) ?_ | refine Ops.yes rfl rfl rfl ?_ | refine Ops.no rfl rfl rfl rfl rfl ?_ | refine Ops.nu rfl rfl rfl rfl ?_ | with_reducible refine W.skip ?_ | with_reducible refine W.endb ?_ | with_reducible refine W.block ?_ | refine W.exit rfl ?_ | refine Ops.len rfl rfl rfl rfl rfl ?_ | refine Ops.flp rfl rfl rfl rfl rfl ?_ | refine Ops.max rfl rfl rfl rfl rfl ?_ | refine Ops.min rfl rfl rfl rfl rfl ?_ | refine Ops.eqB rfl rfl rfl rfl rfl rfl ?_ | refine Ops.neB rfl rfl rfl rfl rfl rfl ?_ | (apply Ops.ldB rfl rfl rfl rfl rfl; assumption; rfl)))
        exact W.endl ⟨_, _, ⟨⟨j + 1, _, rfl, by omega, rfl, hI⟩, by omega⟩, (by repeat (first | exact trivial | refine And.intro rfl ?_))⟩
  · have hlt : j = l.length := by simp at hc; omega
    subst hlt
    (repeat (first | with_reducible refine W.seq ?_ | with_reducible refine Ops.nil ?_ | with_reducible refine W.region ?_ | refine Ops.pu rfl rfl rfl ?_ | refine Ops.ar rfl rfl rfl (by omega) ?_ | refine Ops.yes rfl rfl rfl ?_ | refine Ops.no rfl rfl rfl rfl rfl ?_ | refine Ops.nu rfl rfl rfl rfl ?_ | with_reducible refine W.skip ?_ | with_reducible refine W.endb ?_ | with_reducible refine W.block ?_ | refine W.exit rfl ?_ | refine Ops.len rfl rfl rfl rfl rfl ?_ | refine Ops.flp rfl rfl rfl rfl rfl ?_ | refine Ops.max rfl rfl rfl rfl rfl ?_ | refine Ops.min rfl rfl rfl rfl rfl ?_ | refine Ops.eqB rfl rfl rfl rfl rfl rfl ?_ | refine Ops.neB rfl rfl rfl rfl rfl rfl ?_ | (apply Ops.ldB rfl rfl rfl rfl rfl; assumption; rfl)))
    exact W.fret rfl hI
end Go.Proofs.Ytdiljpnfochndaa
namespace Go.Proofs.Ytdiljpnfochndaa
open Go Go.RowKit Go.Proofs.Ytdiljpnfochndaa.VW
open Go.Proofs.Ytdiljpnfochndaa.HP (Nd kid wor leafB rd modM modM_bd chM chM_len rounds tameM tameN addKid tameM_len tameM_at)
attribute [local irreducible] W Ops
/-- Slices of numbers of the call's own, each in its own block, in a slice of the call's own. -/
structure LL (w0 w : World) (ov : Value) (c : List (List Int)) (svs : List Value) : Prop where
  bel : Below w0.heap.size w0 w
  ge : ∀ k, ov.ownBlock = some k → w0.heap.size ≤ k
  row : w.ownsRow 0 24 1 ov c.length svs
  own : ∀ j, j < c.length → w.ownsRow 0 3 1 (svs.getD j undef) (c.getD j []).length ((c.getD j []).map (Value.int .i64))
  sep : ∀ j, j < c.length → ∀ k, (svs.getD j undef).ownBlock = some k → w0.heap.size ≤ k ∧ ov.ownBlock ≠ some k
  two : ∀ j j', j < c.length → j' < c.length → j ≠ j' → ∀ k, (svs.getD j undef).ownBlock = some k → (svs.getD j' undef).ownBlock ≠ some k
theorem LL.len {w0 w : World} {ov : Value} {c : List (List Int)} {svs : List Value} (h : LL w0 w ov c svs) : svs.length = c.length := by have := h.row.1; omega
theorem LL.kp {w0 w w' : World} {ov : Value} {c : List (List Int)} {svs : List Value} {S : Nat → Prop} (h : LL w0 w ov c svs) (k : Kp S w w') (hs : ∀ i, S i → w0.heap.size ≤ i ∧ ov.ownBlock ≠ some i ∧ ∀ j, j < c.length → (svs.getD j undef).ownBlock ≠ some i) : LL w0 w' ov c svs :=
  ⟨Below.at_ h.bel k (fun i hi => (hs i hi).1), h.ge, own_kp h.row k (fun i hi e => (hs i e).2.1 hi), fun j hj => own_kp (h.own j hj) k (fun i hi e => (hs i e).2.2 j hj hi), h.sep, h.two⟩
theorem LL.fresh {w0 w w' : World} {ov : Value} {c : List (List Int)} {svs : List Value} {S : Nat → Prop} (h : LL w0 w ov c svs) (k : Kp S w w') (hs : ∀ i, S i → w.heap.size ≤ i) : LL w0 w' ov c svs :=
  h.kp k fun i hi => ⟨by have := h.bel.size; have := hs i hi; omega, fun e => by have := (h.row.lt i e).2; have := hs i hi; omega, fun j hj e => by have := ((h.own j hj).lt i e).2; have := hs i hi; omega⟩
theorem app_getD {α : Type} {xs : List α} {z d : α} {j : Nat} (h : j < xs.length) : (xs ++ [z]).getD j d = xs.getD j d := by rw [List.getD_eq_getElem?_getD, List.getElem?_append_left h, ← List.getD_eq_getElem?_getD]
theorem app_last {α : Type} {xs : List α} {z d : α} {n : Nat} (h : n = xs.length) : (xs ++ [z]).getD n d = z := by subst h; simp [List.getD_eq_getElem?_getD]
/-- An empty one more. -/
theorem LL.pushNil {w0 w w' : World} {ov ov' : Value} {c : List (List Int)} {svs : List Value} (h : LL w0 w ov c svs) (ho : w'.ownsRow 0 24 1 ov' (c.length + 1) (svs ++ [.slice none 0 0])) (k : Kp (fun i => ov.ownBlock = some i) w w')
    (hn : ∀ i, ov'.ownBlock = some i → ov.ownBlock = some i ∨ w.heap.size ≤ i) : LL w0 w' ov' (c ++ [[]]) (svs ++ [.slice none 0 0]) := by
  have hl := h.len
  have hg : ∀ j, j < c.length → (svs ++ [Value.slice none 0 0]).getD j undef = svs.getD j undef ∧ (c ++ [[]]).getD j [] = c.getD j [] := fun j hj => ⟨app_getD (by omega), app_getD hj⟩
  have hlast : (svs ++ [Value.slice none 0 0]).getD c.length undef = .slice none 0 0 ∧ (c ++ [[]]).getD c.length [] = [] := ⟨app_last hl.symm, app_last rfl⟩
  have hb : ∀ i, ov'.ownBlock = some i → w0.heap.size ≤ i := fun i hi => by
    rcases hn i hi with e | e
    · exact h.ge i e
    · have := h.bel.size; omega
  refine ⟨Below.at_ h.bel k (fun i hi => h.ge i hi), hb, by simpa using ho, fun j hj => ?_, fun j hj i hi => ?_, fun j j' hj hj' hne i hi => ?_⟩
  · simp at hj
    by_cases e : j = c.length
    · subst e
      rw [hlast.1, hlast.2]
      exact own_nil _ _ _
    · have hj' : j < c.length := by omega
      rw [(hg j hj').1, (hg j hj').2]
      exact own_kp (h.own j hj') k (fun i hi e => (h.sep j hj' i hi).2 e)
  · simp at hj
    by_cases e : j = c.length
    · subst e
      rw [hlast.1] at hi
      simp [Value.ownBlock] at hi
    · have hj' : j < c.length := by omega
      rw [(hg j hj').1] at hi
      refine ⟨(h.sep j hj' i hi).1, fun e => ?_⟩
      rcases hn i e with e2 | e2
      · exact (h.sep j hj' i hi).2 e2
      · have := ((h.own j hj').lt i hi).2; omega
  · simp at hj hj'
    by_cases e : j = c.length
    · subst e
      rw [hlast.1] at hi
      simp [Value.ownBlock] at hi
    · by_cases e' : j' = c.length
      · subst e'
        rw [hlast.1]
        simp [Value.ownBlock]
      · rw [(hg j (by omega)).1] at hi
        rw [(hg j' (by omega)).1]
        exact h.two j j' (by omega) (by omega) hne i hi
/-- A number more in one of them. -/
theorem LL.grow {w0 w w1 w' : World} {ov lv' : Value} {c : List (List Int)} {svs : List Value} {p : Nat} {x : Int} (h : LL w0 w ov c svs) (hp : p < c.length)
    (ho : w1.ownsRow 0 3 1 lv' ((c.getD p []).length + 1) ((c.getD p []).map (Value.int .i64) ++ [.int .i64 x])) (k : Kp (fun i => (svs.getD p undef).ownBlock = some i) w w1)
    (hn : ∀ i, lv'.ownBlock = some i → (svs.getD p undef).ownBlock = some i ∨ w.heap.size ≤ i) (ho' : w'.ownsRow 0 24 1 ov c.length (svs.set p lv')) (k' : Kp (fun i => ov.ownBlock = some i) w1 w') : LL w0 w' ov (c.set p (c.getD p [] ++ [x])) (svs.set p lv') := by
  have hl := h.len
  have hsep : ∀ i, lv'.ownBlock = some i → w0.heap.size ≤ i ∧ ov.ownBlock ≠ some i := fun i hi => by
    rcases hn i hi with e | e
    · exact h.sep p hp i e
    · have := h.bel.size; exact ⟨by omega, fun e2 => by have := (h.row.lt i e2).2; omega⟩
  refine ⟨Below.at_ (Below.at_ h.bel k (fun i hi => (h.sep p hp i hi).1)) k' (fun i hi => h.ge i hi), h.ge, by simpa using ho', fun j hj => ?_, fun j hj i hi => ?_, fun j j' hj hj' hne i hi => ?_⟩
  · simp at hj
    by_cases e : p = j
    · subst e
      rw [lgetD_set_eq (by omega), lgetD_set_eq (by omega)]
      have := own_kp ho k' (fun i hi e => (hsep i hi).2 e)
      simpa using this
    · rw [lgetD_set_ne e, lgetD_set_ne e]
      exact own_kp (own_kp (h.own j hj) k (fun i hi e2 => h.two p j hp hj e i e2 hi)) k' (fun i hi e2 => (h.sep j hj i hi).2 e2)
  · simp at hj
    by_cases e : p = j
    · subst e
      rw [lgetD_set_eq (by omega)] at hi
      exact hsep i hi
    · rw [lgetD_set_ne e] at hi
      exact h.sep j hj i hi
  · simp at hj hj'
    by_cases e : p = j
    · subst e
      rw [lgetD_set_eq (by omega)] at hi
      rw [lgetD_set_ne hne]
      rcases hn i hi with e2 | e2
      · exact h.two p j' hp hj' hne i e2
      · intro e3; have := ((h.own j' hj').lt i e3).2; omega
    · rw [lgetD_set_ne e] at hi
      by_cases e' : p = j'
      · subst e'
        rw [lgetD_set_eq (by omega)]
        intro e3
        rcases hn i e3 with e4 | e4
        · exact h.two j p hj hp hne i hi e4
        · have := ((h.own j hj).lt i hi).2; omega
      · rw [lgetD_set_ne e']
        exact h.two j j' hj hj' hne i hi
end Go.Proofs.Ytdiljpnfochndaa
namespace Go.Proofs.Ytdiljpnfochndaa
open Go Go.RowKit Go.Proofs.Ytdiljpnfochndaa.VW
open Go.Proofs.Ytdiljpnfochndaa.HP (Nd kid wor leafB rd modM modM_bd chM chM_len rounds tameM tameN addKid tameM_len tameM_at)
attribute [local irreducible] W Ops
theorem chM_sum (ps : List Int) : ∀ i j, ((chM ps i).getD j []).length ≤ i
  | 0, j => by
    cases j with
    | zero => simp [chM]
    | succ j => simp [chM]
  | i + 1, j => by
    have hp : (modM (ps.getD i 0) (i + 1)).toNat < (chM ps i).length := by
      have := modM_bd (ps.getD i 0) (n := (i : Int) + 1) (by omega)
      rw [chM_len]; omega
    have hl := chM_len ps i
    simp only [chM]
    by_cases e : j = (modM (ps.getD i 0) (i + 1)).toNat
    · subst e
      rw [Go.Proofs.Ytdiljpnfochndaa.HP.addKid_p hp, List.length_append, List.length_singleton]
      have := chM_sum ps i (modM (ps.getD i 0) (i + 1)).toNat
      omega
    · by_cases hj : j < (chM ps i).length
      · rw [Go.Proofs.Ytdiljpnfochndaa.HP.addKid_ne e hj]
        have := chM_sum ps i j
        omega
      · by_cases hj2 : j = (chM ps i).length
        · subst hj2
          rw [Go.Proofs.Ytdiljpnfochndaa.HP.addKid_new hp]
          simp
        · rw [List.getD_eq_getElem?_getD, List.getElem?_eq_none (by rw [Go.Proofs.Ytdiljpnfochndaa.HP.addKid_len]; omega)]
          simp
theorem gapp {α : Type} {xs ys : List α} {i : Nat} {d : α} (h : i < xs.length) : (xs ++ ys).getD i d = xs.getD i d := by rw [List.getD_eq_getElem?_getD, List.getElem?_append_left h, ← List.getD_eq_getElem?_getD]
set_option maxRecDepth 100000 in
theorem tame_c {w : World} {pv wv : Value} {ps ws : List Int} {most : Nat} (hp : SlI w pv ps) (hw : SlI w wv ws) (h1 : 1 ≤ most) (hm : most ≤ 60) :
    Calls Try.prog 33 #[pv, wv, .int .i64 most] w (Ret fun r w' => TreeM w' r (tameM ps ws most) ∧ Below w.heap.size w w') := by
  have hpl := Sl.len hp
  have hwl := Sl.len hw
  obtain ⟨Ap, cp, rfl⟩ := Sl.sl hp
  obtain ⟨Aw, cw, rfl⟩ := Sl.sl hw
  refine calls_W (vs := [_, _, _]) Try.func33 rfl (by kernel_rfl) rfl ?_
  (repeat (first | with_reducible refine W.seq ?_ | with_reducible refine Ops.nil ?_ | with_reducible refine W.region ?_ | refine Ops.pu rfl rfl rfl ?_ | refine Ops.ar rfl rfl rfl (by omega) ?_ | refine Ops.yes rfl rfl rfl ?_ | refine Ops.no rfl rfl rfl rfl rfl ?_ | refine Ops.nu rfl rfl rfl rfl ?_ | with_reducible refine W.skip ?_ | with_reducible refine W.endb ?_ | with_reducible refine W.block ?_ | refine W.exit rfl ?_ | refine Ops.len rfl rfl rfl rfl rfl ?_ | refine Ops.flp rfl rfl rfl rfl rfl ?_ | refine Ops.max rfl rfl rfl rfl rfl ?_ | refine Ops.min rfl rfl rfl rfl rfl ?_ | refine Ops.eqB rfl rfl rfl rfl rfl rfl ?_ | refine Ops.neB rfl rfl rfl rfl rfl rfl ?_ | (apply Ops.ldB rfl rfl rfl rfl rfl; assumption; rfl)))
  refine Ops.push rfl rfl rfl rfl rfl rfl rfl rfl rfl rfl rfl rfl (fun _ => rfl) rfl (own_nil w 24 1) (by omega) (fun ov p w1 ho1 k1 hn1 => ?_)
  have hL1 : LL w w1 ov (chM ps 0) [.slice none 0 0] := by
    have h0 : LL w w (.slice none 0 0) [] [] := ⟨Below.refl _ _, fun k hk => by simp [Value.ownBlock] at hk, own_nil _ _ _, fun j hj => by simp at hj, fun j hj => by simp at hj, fun j j' hj => by simp at hj⟩
    exact h0.pushNil ho1 k1 hn1
  (repeat (first | with_reducible refine W.seq ?_ | with_reducible refine Ops.nil ?_ | with_reducible refine W.region ?_ | refine Ops.pu rfl rfl rfl ?_ | refine Ops.ar rfl rfl rfl (by omega) ?_ | refine Ops.yes rfl rfl rfl ?_ | refine Ops.no rfl rfl rfl rfl rfl ?_ | refine Ops.nu rfl rfl rfl rfl ?_ | with_reducible refine W.skip ?_ | with_reducible refine W.endb ?_ | with_reducible refine W.block ?_ | refine W.exit rfl ?_ | refine Ops.len rfl rfl rfl rfl rfl ?_ | refine Ops.flp rfl rfl rfl rfl rfl ?_ | refine Ops.max rfl rfl rfl rfl rfl ?_ | refine Ops.min rfl rfl rfl rfl rfl ?_ | refine Ops.eqB rfl rfl rfl rfl rfl rfl ?_ | refine Ops.neB rfl rfl rfl rfl rfl rfl ?_ | (apply Ops.ldB rfl rfl rfl rfl rfl; assumption; rfl)))
  refine W.loop (fun m ρ w3 => ∃ (j : Nat) (ov : Value) (svs : List Value), m = rounds ps most - j ∧ j ≤ rounds ps most ∧ ρ = [(0, .slice Ap ps.length cp), (1, .slice Aw ws.length cw), (2, .int .i64 most), (7, ov), (8, .int .i64 (j + 1))] ∧ LL w w3 ov (chM ps j) svs)
    ⟨_, _, ⟨0, _, _, rfl, Nat.zero_le _, rfl, hL1⟩, (by repeat (first | exact trivial | refine And.intro rfl ?_))⟩ ?_
  clear hL1 hn1 k1 ho1
  rintro m ρ w3 ⟨j, ov, svs, rfl, hj, rfl, hL⟩
  have hrd : rounds ps most = min (most - 1) ps.length := rfl
  (repeat (first | with_reducible refine W.seq ?_ | with_reducible refine Ops.nil ?_ | with_reducible refine W.region ?_ | refine Ops.pu rfl rfl rfl ?_ | refine Ops.ar rfl rfl rfl (by omega) ?_ | refine Ops.yes rfl rfl rfl ?_ | refine Ops.no rfl rfl rfl rfl rfl ?_ | refine Ops.nu rfl rfl rfl rfl ?_ | with_reducible refine W.skip ?_ | with_reducible refine W.endb ?_ | with_reducible refine W.block ?_ | refine W.exit rfl ?_ | refine Ops.len rfl rfl rfl rfl rfl ?_ | refine Ops.flp rfl rfl rfl rfl rfl ?_ | refine Ops.max rfl rfl rfl rfl rfl ?_ | refine Ops.min rfl rfl rfl rfl rfl ?_ | refine Ops.eqB rfl rfl rfl rfl rfl rfl ?_ | refine Ops.neB rfl rfl rfl rfl rfl rfl ?_ | (apply Ops.ldB rfl rfl rfl rfl rfl; assumption; rfl)))
  refine Ops.cut (fun ρ w' => ∃ b : Bool, ρ = [(0, .slice Ap ps.length cp), (1, .slice Aw ws.length cw), (2, .int .i64 most), (7, ov), (8, .int .i64 (j + 1)), (25, .bool b)] ∧ w' = w3 ∧ (b = true ↔ j < rounds ps most)) ?_ ?_
  · (repeat' (first | with_reducible refine W.seq ?_ | with_reducible refine Ops.nil ?_ | with_reducible refine W.region ?_ | refine Ops.pu rfl rfl rfl ?_ | refine Ops.ar rfl rfl rfl (by omega) ?_ | refine Ops.yes rfl rfl rfl ?_ | refine Ops.no rfl rfl rfl rfl rfl ?_ | refine Ops.nu rfl rfl rfl rfl ?_ | with_reducible refine W.skip ?_ | with_reducible refine W.endb ?_ | with_reducible refine W.block ?_ | refine W.exit rfl ?_ | refine Ops.len rfl rfl rfl rfl rfl ?_ | refine Ops.flp rfl rfl rfl rfl rfl ?_ | refine Ops.max rfl rfl rfl rfl rfl ?_ | refine Ops.min rfl rfl rfl rfl rfl ?_ | refine Ops.eqB rfl rfl rfl rfl rfl rfl ?_ | refine Ops.neB rfl rfl rfl rfl rfl rfl ?_ | (apply Ops.ldB rfl rfl rfl rfl rfl; assumption; rfl) | refine Ops.gdT rfl rfl rfl rfl (fun _ => ?_) (fun _ => ?_) | refine Ops.gdF rfl rfl rfl rfl (fun _ => ?_) (fun _ => ?_)))
    all_goals refine W.endl ⟨_, ⟨_, rfl, rfl, ?_⟩, (by repeat (first | exact trivial | refine And.intro rfl ?_))⟩
    · rename_i h; simp at h ⊢; omega
    · rename_i h; simp at h ⊢; omega
  · rintro ρ w4 ⟨b, rfl, rfl, hb⟩
    refine W.cond rfl (fun hc => ?_) (fun hc => ?_)
    · have hlt := hb.1 hc
      have hmp := modM_bd (ps.getD j 0) (n := (j : Int) + 1) (by omega)
      have hcl := chM_len ps j
      have hadd : chM ps (j + 1) = ((chM ps j) ++ [[]]).set (modM (ps.getD j 0) (j + 1)).toNat ((chM ps j).getD (modM (ps.getD j 0) (j + 1)).toNat [] ++ [((j : Int) + 1)]) := by
        simp only [chM, addKid, hcl]
        rfl
      have hsum := chM_sum ps j (modM (ps.getD j 0) (j + 1)).toNat
      (repeat (first | with_reducible refine W.seq ?_ | with_reducible refine Ops.nil ?_ | with_reducible refine W.region ?_ | refine Ops.pu rfl rfl rfl ?_ | refine Ops.ar rfl rfl rfl (by omega) ?_ | refine Ops.yes rfl rfl rfl ?_ | refine Ops.no rfl rfl rfl rfl rfl ?_ | refine Ops.nu rfl rfl rfl rfl ?_ | with_reducible refine W.skip ?_ | with_reducible refine W.endb ?_ | with_reducible refine W.block ?_ | refine W.exit rfl ?_ | refine Ops.len rfl rfl rfl rfl rfl ?_ | refine Ops.flp rfl rfl rfl rfl rfl ?_ | refine Ops.max rfl rfl rfl rfl rfl ?_ | refine Ops.min rfl rfl rfl rfl rfl ?_ | refine Ops.eqB rfl rfl rfl rfl rfl rfl ?_ | refine Ops.neB rfl rfl rfl rfl rfl rfl ?_ | (apply Ops.ldB rfl rfl rfl rfl rfl; assumption; rfl)))
      refine Ops.rdS (enc := Value.int .i64) (z := (0 : Int)) rfl rfl rfl rfl rfl rfl rfl rfl rfl rfl rfl (Sl.below hp hL.bel) (by omega) (by omega) (fun p => ?_)
      rw [show ((j : Int) + 1 - 1).toNat = j by omega]
      (repeat (first | with_reducible refine W.seq ?_ | with_reducible refine Ops.nil ?_ | with_reducible refine W.region ?_ | refine Ops.pu rfl rfl rfl ?_ | refine Ops.ar rfl rfl rfl (by omega) ?_ | refine Ops.yes rfl rfl rfl ?_ | refine Ops.no rfl rfl rfl rfl rfl ?_ | refine Ops.nu rfl rfl rfl rfl ?_ | with_reducible refine W.skip ?_ | with_reducible refine W.endb ?_ | with_reducible refine W.block ?_ | refine W.exit rfl ?_ | refine Ops.len rfl rfl rfl rfl rfl ?_ | refine Ops.flp rfl rfl rfl rfl rfl ?_ | refine Ops.max rfl rfl rfl rfl rfl ?_ | refine Ops.min rfl rfl rfl rfl rfl ?_ | refine Ops.eqB rfl rfl rfl rfl rfl rfl ?_ | refine Ops.neB rfl rfl rfl rfl rfl rfl ?_ | (apply Ops.ldB rfl rfl rfl rfl rfl; assumption; rfl)))
      refine Ops.callS rfl rfl rfl rfl rfl (mod_c _ _ _ (by omega) (by omega)) ?_
      generalize modM (ps.getD j 0) (j + 1) = pp at *
      obtain ⟨q, rfl⟩ := Int.eq_ofNat_of_zero_le hmp.1
      (repeat (first | with_reducible refine W.seq ?_ | with_reducible refine Ops.nil ?_ | with_reducible refine W.region ?_ | refine Ops.pu rfl rfl rfl ?_ | refine Ops.ar rfl rfl rfl (by omega) ?_ | refine Ops.yes rfl rfl rfl ?_ | refine Ops.no rfl rfl rfl rfl rfl ?_ | refine Ops.nu rfl rfl rfl rfl ?_ | with_reducible refine W.skip ?_ | with_reducible refine W.endb ?_ | with_reducible refine W.block ?_ | refine W.exit rfl ?_ | refine Ops.len rfl rfl rfl rfl rfl ?_ | refine Ops.flp rfl rfl rfl rfl rfl ?_ | refine Ops.max rfl rfl rfl rfl rfl ?_ | refine Ops.min rfl rfl rfl rfl rfl ?_ | refine Ops.eqB rfl rfl rfl rfl rfl rfl ?_ | refine Ops.neB rfl rfl rfl rfl rfl rfl ?_ | (apply Ops.ldB rfl rfl rfl rfl rfl; assumption; rfl)))
      refine Ops.push rfl rfl rfl rfl rfl rfl rfl rfl rfl rfl rfl rfl (fun _ => rfl) rfl hL.row (by omega) (fun ov2 p2 w5 ho5 k5 hn5 => ?_)
      have hL5 := hL.pushNil ho5 k5 hn5
      have hcl5 : (chM ps j ++ [[]]).length = j + 2 := by simp [hcl]
      have hgq : (chM ps j ++ [[]]).getD q [] = (chM ps j).getD q [] := app_getD (by omega)
      have hrow5 := hL5.row
      rw [hcl5] at hrow5
      obtain ⟨g, cap, cur, rfl, hBd, hszd⟩ := own_blk hrow5 (by omega)
      have hcell := own_cell hrow5 (a := q * 1) (b := 0) (by omega) (by omega)
      (repeat (first | with_reducible refine W.seq ?_ | with_reducible refine Ops.nil ?_ | with_reducible refine W.region ?_ | refine Ops.pu rfl rfl rfl ?_ | refine Ops.ar rfl rfl rfl (by omega) ?_ | refine Ops.yes rfl rfl rfl ?_ | refine Ops.no rfl rfl rfl rfl rfl ?_ | refine Ops.nu rfl rfl rfl rfl ?_ | with_reducible refine W.skip ?_ | with_reducible refine W.endb ?_ | with_reducible refine W.block ?_ | refine W.exit rfl ?_ | refine Ops.len rfl rfl rfl rfl rfl ?_ | refine Ops.flp rfl rfl rfl rfl rfl ?_ | refine Ops.max rfl rfl rfl rfl rfl ?_ | refine Ops.min rfl rfl rfl rfl rfl ?_ | refine Ops.eqB rfl rfl rfl rfl rfl rfl ?_ | refine Ops.neB rfl rfl rfl rfl rfl rfl ?_ | (apply Ops.ldB rfl rfl rfl rfl rfl; assumption; rfl)))
      refine Ops.idx rfl rfl rfl rfl rfl rfl rfl (by omega) (by omega) (Ops.ld rfl rfl rfl rfl rfl (v := (svs ++ [Value.slice none 0 0]).getD q undef) (by simpa [add_lit] using hcell) ?_)
      have hownq := hL5.own q (by omega)
      rw [hgq] at hownq
      generalize hlvq : (svs ++ [Value.slice none 0 0]).getD q undef = lv at *
      (repeat (first | with_reducible refine W.seq ?_ | with_reducible refine Ops.nil ?_ | with_reducible refine W.region ?_ | refine Ops.pu rfl rfl rfl ?_ | refine Ops.ar rfl rfl rfl (by omega) ?_ | refine Ops.yes rfl rfl rfl ?_ | refine Ops.no rfl rfl rfl rfl rfl ?_ | refine Ops.nu rfl rfl rfl rfl ?_ | with_reducible refine W.skip ?_ | with_reducible refine W.endb ?_ | with_reducible refine W.block ?_ | refine W.exit rfl ?_ | refine Ops.len rfl rfl rfl rfl rfl ?_ | refine Ops.flp rfl rfl rfl rfl rfl ?_ | refine Ops.max rfl rfl rfl rfl rfl ?_ | refine Ops.min rfl rfl rfl rfl rfl ?_ | refine Ops.eqB rfl rfl rfl rfl rfl rfl ?_ | refine Ops.neB rfl rfl rfl rfl rfl rfl ?_ | (apply Ops.ldB rfl rfl rfl rfl rfl; assumption; rfl)))
      simp only [Int.toNat_natCast] at hsum
      refine Ops.push rfl rfl rfl rfl rfl rfl rfl rfl rfl rfl rfl rfl (fun _ => rfl) rfl hownq (by omega) (fun lv2 p3 w6 ho6 k6 hn6 => ?_)
      have hB6 : Blk w6 g cur 24 := hBd.kp k6 (fun e => (hL5.sep q (by omega) g (by rw [hlvq]; exact e)).2 rfl)
      have hrow6 := own_kp hrow5 k6 (fun i hi e => (hL5.sep q (by omega) i (by rw [hlvq]; exact e)).2 hi)
      have hone2 : lv2.oneCell' = true := by obtain ⟨A, c, h⟩ := Sl.sl (own_sl (enc := Value.int .i64) (z := (0 : Int)) (xs := (chM ps j).getD q [] ++ [(j : Int) + 1]) (by simpa using ho6)); rw [h]; rfl
      refine Ops.idx rfl rfl rfl rfl rfl rfl rfl (by omega) (by omega) ?_
      rw [add_lit, Nat.zero_add]
      refine Ops.st rfl rfl rfl rfl rfl rfl hone2 hB6 (by simp; omega) (fun w7 hu7 => ?_)
      have hset := own_set hrow6 hB6 hu7
      have hL7 : LL w w7 (.slice (some ⟨g, 0, none⟩) (j + 2) cap) (chM ps (j + 1)) ((svs ++ [Value.slice none 0 0]).set q lv2) := by
        rw [hadd]
        have := hL5.grow (p := q) (x := (j : Int) + 1) (lv' := lv2) (w' := w7) (by omega) (by rw [hgq]; exact ho6) (by rw [hlvq]; exact k6) (by rw [hlvq]; exact hn6) (by rw [hcl5]; simpa using hset) (hu7.kp.mono (fun i _ e => by simp [Value.ownBlock, e]))
        rw [hgq] at this
        exact this
      (repeat (first | with_reducible refine W.seq ?_ | with_reducible refine Ops.nil ?_ | with_reducible refine W.region ?_ | refine Ops.pu rfl rfl rfl ?_ | refine Ops.ar rfl rfl rfl (by omega) ?_ | refine Ops.yes rfl rfl rfl ?_ | refine Ops.no rfl rfl rfl rfl rfl ?_ | refine Ops.nu rfl rfl rfl rfl ?_ | with_reducible refine W.skip ?_ | with_reducible refine W.endb ?_ | with_reducible refine W.block ?_ | refine W.exit rfl ?_ | refine Ops.len rfl rfl rfl rfl rfl ?_ | refine Ops.flp rfl rfl rfl rfl rfl ?_ | refine Ops.max rfl rfl rfl rfl rfl ?_ | refine Ops.min rfl rfl rfl rfl rfl ?_ | refine Ops.eqB rfl rfl rfl rfl rfl rfl ?_ | refine Ops.neB rfl rfl rfl rfl rfl rfl ?_ | (apply Ops.ldB rfl rfl rfl rfl rfl; assumption; rfl)))
      exact W.endl ⟨_, _, ⟨⟨j + 1, _, _, rfl, by omega, rfl, hL7⟩, by omega⟩, (by repeat (first | exact trivial | refine And.intro rfl ?_))⟩
    · have hlt : j = rounds ps most := by have := hb.2; rw [hc] at this; simp at this; omega
      subst hlt
      clear hb hj
      have hcl := chM_len ps (rounds ps most)
      have hrl : rounds ps most ≤ 59 := by omega
      generalize hR : rounds ps most = R at *
      generalize hC : chM ps R = C at *
      have hrow := hL.row
      rw [hcl] at hrow
      obtain ⟨g, cap, rfl, hcell⟩ := own_at hrow (by omega)
      (repeat (first | with_reducible refine W.seq ?_ | with_reducible refine Ops.nil ?_ | with_reducible refine W.region ?_ | refine Ops.pu rfl rfl rfl ?_ | refine Ops.ar rfl rfl rfl (by omega) ?_ | refine Ops.yes rfl rfl rfl ?_ | refine Ops.no rfl rfl rfl rfl rfl ?_ | refine Ops.nu rfl rfl rfl rfl ?_ | with_reducible refine W.skip ?_ | with_reducible refine W.endb ?_ | with_reducible refine W.block ?_ | refine W.exit rfl ?_ | refine Ops.len rfl rfl rfl rfl rfl ?_ | refine Ops.flp rfl rfl rfl rfl rfl ?_ | refine Ops.max rfl rfl rfl rfl rfl ?_ | refine Ops.min rfl rfl rfl rfl rfl ?_ | refine Ops.eqB rfl rfl rfl rfl rfl rfl ?_ | refine Ops.neB rfl rfl rfl rfl rfl rfl ?_ | (apply Ops.ldB rfl rfl rfl rfl rfl; assumption; rfl)))
      refine W.loop (fun m ρ w5 => ∃ (j : Nat) (ov2 : Value) (xs : List Value), m = R + 1 - j ∧ j ≤ R + 1 ∧ ρ = [(1, .slice Aw ws.length cw), (7, .slice (some ⟨g, 0, none⟩) (R + 1) cap), (11, ov2), (12, .int .i64 j)] ∧ Below w4.heap.size w4 w5 ∧
          w5.ownsRow 0 47 2 ov2 j xs ∧ (∀ k, ov2.ownBlock = some k → w4.heap.size ≤ k) ∧ ∀ i, i < j → xs.getD (i * 2) undef = svs.getD i undef ∧ xs.getD (i * 2 + 1) undef = .int .i64 (tameN ps ws C i).2)
        ⟨_, _, ⟨0, _, [], rfl, Nat.zero_le _, rfl, Below.refl _ _, own_nil _ _ _, fun k hk => by simp [Value.ownBlock] at hk, fun i hi => by omega⟩, (by repeat (first | exact trivial | refine And.intro rfl ?_))⟩ ?_
      rintro m ρ w5 ⟨j, ov2, xs, rfl, hj, rfl, hb5, hown2, hge2, hxs⟩
      have hL5 := hL.fresh (Kp.of_below (S := fun _ => False) hb5) (fun _ e => e.elim)
      have hrow5 := hL5.row
      rw [hcl] at hrow5
      (repeat (first | with_reducible refine W.seq ?_ | with_reducible refine Ops.nil ?_ | with_reducible refine W.region ?_ | refine Ops.pu rfl rfl rfl ?_ | refine Ops.ar rfl rfl rfl (by omega) ?_ | refine Ops.yes rfl rfl rfl ?_ | refine Ops.no rfl rfl rfl rfl rfl ?_ | refine Ops.nu rfl rfl rfl rfl ?_ | with_reducible refine W.skip ?_ | with_reducible refine W.endb ?_ | with_reducible refine W.block ?_ | refine W.exit rfl ?_ | refine Ops.len rfl rfl rfl rfl rfl ?_ | refine Ops.flp rfl rfl rfl rfl rfl ?_ | refine Ops.max rfl rfl rfl rfl rfl ?_ | refine Ops.min rfl rfl rfl rfl rfl ?_ | refine Ops.eqB rfl rfl rfl rfl rfl rfl ?_ | refine Ops.neB rfl rfl rfl rfl rfl rfl ?_ | (apply Ops.ldB rfl rfl rfl rfl rfl; assumption; rfl)))
      refine W.cond rfl (fun hc => ?_) (fun hc => ?_)
      · have hlt : j < R + 1 := by simp at hc; omega
        have hxl := hown2.1
        have hci := own_cell hrow5 (a := j * 1) (b := 0) (by omega) (by omega)
        have hownj := hL5.own j (by omega)
        obtain ⟨Aj, cj, hsj⟩ := Sl.sl (own_sl (enc := Value.int .i64) (z := (0 : Int)) hownj)
        have hone : (svs.getD j undef).oneCell' = true := by rw [hsj]; rfl
        have hci' : w5.cell? ⟨g, j, none⟩ = some (.slice Aj (C.getD j []).length cj) := by rw [← hsj]; simpa [add_lit] using hci
        (repeat (first | with_reducible refine W.seq ?_ | with_reducible refine Ops.nil ?_ | with_reducible refine W.region ?_ | refine Ops.pu rfl rfl rfl ?_ | refine Ops.ar rfl rfl rfl (by omega) ?_ | refine Ops.yes rfl rfl rfl ?_ | refine Ops.no rfl rfl rfl rfl rfl ?_ | refine Ops.nu rfl rfl rfl rfl ?_ | with_reducible refine W.skip ?_ | with_reducible refine W.endb ?_ | with_reducible refine W.block ?_ | refine W.exit rfl ?_ | refine Ops.len rfl rfl rfl rfl rfl ?_ | refine Ops.flp rfl rfl rfl rfl rfl ?_ | refine Ops.max rfl rfl rfl rfl rfl ?_ | refine Ops.min rfl rfl rfl rfl rfl ?_ | refine Ops.eqB rfl rfl rfl rfl rfl rfl ?_ | refine Ops.neB rfl rfl rfl rfl rfl rfl ?_ | (apply Ops.ldB rfl rfl rfl rfl rfl; assumption; rfl)))
        refine Ops.idx rfl rfl rfl rfl rfl rfl rfl (by omega) (by omega) (Ops.ld rfl rfl rfl rfl rfl (v := .slice Aj (C.getD j []).length cj) (by simpa [add_lit] using hci') ?_)
        refine Ops.bldG (cs := #[.slice Aj (C.getD j []).length cj, .int .i64 0]) rfl rfl rfl rfl rfl rfl (by kernel_rfl) ?_
        refine Ops.alloc rfl rfl rfl rfl (fun w6 b hM => ?_)
        refine Ops.st2 rfl rfl rfl rfl rfl rfl rfl rfl hM.at_ (fun w7 hu7 => ?_)
        have hbe := hM.r_eq
        have k7 : Kp (fun i => w5.heap.size ≤ i) w5 w7 := (hM.kp.trans hu7.kp).mono (fun i _ e => by rcases e with e | e; exact e.elim; omega)
        have hci7 : w7.cell? ⟨g, j, none⟩ = some (.slice Aj (C.getD j []).length cj) := cell_kp k7 hci' (fun e => by
          have e2 : w5.heap.size ≤ g := e
          have := (hL5.row.lt g rfl).2
          omega)
        have hB7 := hu7.blk
        have hw7 := Sl.below hw (hL5.bel.trans ((Below.at_ (Below.refl _ _) k7 (fun i hi => hi)).mono hL5.bel.size))
        have htn : (tameN ps ws C j).2 = if (C.getD j []).length = 0 ∧ j < ws.length then modM (ws.getD j 0) 201 - 100 else 0 := rfl
        have hmb := modM_bd (ws.getD j 0) (n := 201) (by omega)
        (repeat (first | with_reducible refine W.seq ?_ | with_reducible refine Ops.nil ?_ | with_reducible refine W.region ?_ | refine Ops.pu rfl rfl rfl ?_ | refine Ops.ar rfl rfl rfl (by omega) ?_ | refine Ops.yes rfl rfl rfl ?_ | refine Ops.no rfl rfl rfl rfl rfl ?_ | refine Ops.nu rfl rfl rfl rfl ?_ | with_reducible refine W.skip ?_ | with_reducible refine W.endb ?_ | with_reducible refine W.block ?_ | refine W.exit rfl ?_ | refine Ops.len rfl rfl rfl rfl rfl ?_ | refine Ops.flp rfl rfl rfl rfl rfl ?_ | refine Ops.max rfl rfl rfl rfl rfl ?_ | refine Ops.min rfl rfl rfl rfl rfl ?_ | refine Ops.eqB rfl rfl rfl rfl rfl rfl ?_ | refine Ops.neB rfl rfl rfl rfl rfl rfl ?_ | (apply Ops.ldB rfl rfl rfl rfl rfl; assumption; rfl)))
        refine Ops.idx rfl rfl rfl rfl rfl rfl rfl (by omega) (by omega) (Ops.ld rfl rfl rfl rfl rfl (v := .slice Aj (C.getD j []).length cj) (by simpa [add_lit] using hci7) ?_)
        refine Ops.cut (fun ρ w' => ∃ b' : Bool, ρ = [(1, .slice Aw ws.length cw), (7, .slice (some ⟨g, 0, none⟩) (R + 1) cap), (11, ov2), (12, .int .i64 j), (13, .pointer (some ⟨b, 0, none⟩)), (71, .bool b')] ∧ w' = w7 ∧ (b' = true ↔ (C.getD j []).length = 0 ∧ j < ws.length)) ?_ ?_
        · (repeat' (first | with_reducible refine W.seq ?_ | with_reducible refine Ops.nil ?_ | with_reducible refine W.region ?_ | refine Ops.pu rfl rfl rfl ?_ | refine Ops.ar rfl rfl rfl (by omega) ?_ | refine Ops.yes rfl rfl rfl ?_ | refine Ops.no rfl rfl rfl rfl rfl ?_ | refine Ops.nu rfl rfl rfl rfl ?_ | with_reducible refine W.skip ?_ | with_reducible refine W.endb ?_ | with_reducible refine W.block ?_ | refine W.exit rfl ?_ | refine Ops.len rfl rfl rfl rfl rfl ?_ | refine Ops.flp rfl rfl rfl rfl rfl ?_ | refine Ops.max rfl rfl rfl rfl rfl ?_ | refine Ops.min rfl rfl rfl rfl rfl ?_ | refine Ops.eqB rfl rfl rfl rfl rfl rfl ?_ | refine Ops.neB rfl rfl rfl rfl rfl rfl ?_ | (apply Ops.ldB rfl rfl rfl rfl rfl; assumption; rfl) | refine Ops.gdT rfl rfl rfl rfl (fun _ => ?_) (fun _ => ?_) | refine Ops.gdF rfl rfl rfl rfl (fun _ => ?_) (fun _ => ?_)))
          all_goals refine W.endl ⟨_, ⟨_, rfl, rfl, ?_⟩, (by repeat (first | exact trivial | refine And.intro rfl ?_))⟩
          · rename_i h
            have h' : (C.getD j []).length = 0 := by simpa using h
            simp only [h', true_and, decide_eq_true_eq]
            omega
          · rename_i h
            have h' : ¬ (C.getD j []).length = 0 := by simpa using h
            exact ⟨fun h => by simp at h, fun h => absurd h.1 h'⟩
        · rintro ρ w8 ⟨b', rfl, rfl, hb'⟩
          refine W.cut (fun ρ w' => ∃ z, ρ = [(1, .slice Aw ws.length cw), (7, .slice (some ⟨g, 0, none⟩) (R + 1) cap), (11, ov2), (12, .int .i64 j), (13, .pointer (some ⟨b, 0, none⟩))] ∧ Kp (fun i => w5.heap.size ≤ i) w5 w' ∧ z = (tameN ps ws C j).2 ∧ Blk w' b #[.slice Aj (C.getD j []).length cj, .int .i64 z] 47) ?_ ?_
          · refine W.cond rfl (fun hc => ?_) (fun hc => ?_)
            · have h2 := hb'.1 hc
              (repeat (first | with_reducible refine W.seq ?_ | with_reducible refine Ops.nil ?_ | with_reducible refine W.region ?_ | refine Ops.pu rfl rfl rfl ?_ | refine Ops.ar rfl rfl rfl (by omega) ?_ | refine Ops.yes rfl rfl rfl ?_ | refine Ops.no rfl rfl rfl rfl rfl ?_ | refine Ops.nu rfl rfl rfl rfl ?_ | with_reducible refine W.skip ?_ | with_reducible refine W.endb ?_ | with_reducible refine W.block ?_ | refine W.exit rfl ?_ | refine Ops.len rfl rfl rfl rfl rfl ?_ | refine Ops.flp rfl rfl rfl rfl rfl ?_ | refine Ops.max rfl rfl rfl rfl rfl ?_ | refine Ops.min rfl rfl rfl rfl rfl ?_ | refine Ops.eqB rfl rfl rfl rfl rfl rfl ?_ | refine Ops.neB rfl rfl rfl rfl rfl rfl ?_ | (apply Ops.ldB rfl rfl rfl rfl rfl; assumption; rfl)))
              refine Ops.rdS (enc := Value.int .i64) (z := (0 : Int)) rfl rfl rfl rfl rfl rfl rfl rfl rfl rfl rfl hw7 (by omega) (by omega) (fun p => ?_)
              simp only [Int.toNat_natCast]
              (repeat (first | with_reducible refine W.seq ?_ | with_reducible refine Ops.nil ?_ | with_reducible refine W.region ?_ | refine Ops.pu rfl rfl rfl ?_ | refine Ops.ar rfl rfl rfl (by omega) ?_ | refine Ops.yes rfl rfl rfl ?_ | refine Ops.no rfl rfl rfl rfl rfl ?_ | refine Ops.nu rfl rfl rfl rfl ?_ | with_reducible refine W.skip ?_ | with_reducible refine W.endb ?_ | with_reducible refine W.block ?_ | refine W.exit rfl ?_ | refine Ops.len rfl rfl rfl rfl rfl ?_ | refine Ops.flp rfl rfl rfl rfl rfl ?_ | refine Ops.max rfl rfl rfl rfl rfl ?_ | refine Ops.min rfl rfl rfl rfl rfl ?_ | refine Ops.eqB rfl rfl rfl rfl rfl rfl ?_ | refine Ops.neB rfl rfl rfl rfl rfl rfl ?_ | (apply Ops.ldB rfl rfl rfl rfl rfl; assumption; rfl)))
              refine Ops.callS rfl rfl rfl rfl rfl (mod_c _ _ _ (by decide) (by decide)) ?_
              (repeat (first | with_reducible refine W.seq ?_ | with_reducible refine Ops.nil ?_ | with_reducible refine W.region ?_ | refine Ops.pu rfl rfl rfl ?_ | refine Ops.ar rfl rfl rfl (by omega) ?_ | refine Ops.yes rfl rfl rfl ?_ | refine Ops.no rfl rfl rfl rfl rfl ?_ | refine Ops.nu rfl rfl rfl rfl ?_ | with_reducible refine W.skip ?_ | with_reducible refine W.endb ?_ | with_reducible refine W.block ?_ | refine W.exit rfl ?_ | refine Ops.len rfl rfl rfl rfl rfl ?_ | refine Ops.flp rfl rfl rfl rfl rfl ?_ | refine Ops.max rfl rfl rfl rfl rfl ?_ | refine Ops.min rfl rfl rfl rfl rfl ?_ | refine Ops.eqB rfl rfl rfl rfl rfl rfl ?_ | refine Ops.neB rfl rfl rfl rfl rfl rfl ?_ | (apply Ops.ldB rfl rfl rfl rfl rfl; assumption; rfl)))
              refine Ops.st rfl rfl rfl rfl rfl rfl rfl hB7 (by simp) (fun w9 hu9 => ?_)
              (repeat (first | with_reducible refine W.seq ?_ | with_reducible refine Ops.nil ?_ | with_reducible refine W.region ?_ | refine Ops.pu rfl rfl rfl ?_ | refine Ops.ar rfl rfl rfl (by omega) ?_ | refine Ops.yes rfl rfl rfl ?_ | refine Ops.no rfl rfl rfl rfl rfl ?_ | refine Ops.nu rfl rfl rfl rfl ?_ | with_reducible refine W.skip ?_ | with_reducible refine W.endb ?_ | with_reducible refine W.block ?_ | refine W.exit rfl ?_ | refine Ops.len rfl rfl rfl rfl rfl ?_ | refine Ops.flp rfl rfl rfl rfl rfl ?_ | refine Ops.max rfl rfl rfl rfl rfl ?_ | refine Ops.min rfl rfl rfl rfl rfl ?_ | refine Ops.eqB rfl rfl rfl rfl rfl rfl ?_ | refine Ops.neB rfl rfl rfl rfl rfl rfl ?_ | (apply Ops.ldB rfl rfl rfl rfl rfl; assumption; rfl)))
              exact W.endl ⟨_, ⟨_, rfl, (k7.trans hu9.kp).mono (fun i _ e => by rcases e with e | e; exact e; omega), by rw [htn, if_pos h2], hu9.blk⟩, (by repeat (first | exact trivial | refine And.intro rfl ?_))⟩
            · (repeat (first | with_reducible refine W.seq ?_ | with_reducible refine Ops.nil ?_ | with_reducible refine W.region ?_ | refine Ops.pu rfl rfl rfl ?_ | refine Ops.ar rfl rfl rfl (by omega) ?_ | refine Ops.yes rfl rfl rfl ?_ | refine Ops.no rfl rfl rfl rfl rfl ?_ | refine Ops.nu rfl rfl rfl rfl ?_ | with_reducible refine W.skip ?_ | with_reducible refine W.endb ?_ | with_reducible refine W.block ?_ | refine W.exit rfl ?_ | refine Ops.len rfl rfl rfl rfl rfl ?_ | refine Ops.flp rfl rfl rfl rfl rfl ?_ | refine Ops.max rfl rfl rfl rfl rfl ?_ | refine Ops.min rfl rfl rfl rfl rfl ?_ | refine Ops.eqB rfl rfl rfl rfl rfl rfl ?_ | refine Ops.neB rfl rfl rfl rfl rfl rfl ?_ | (apply Ops.ldB rfl rfl rfl rfl rfl; assumption; rfl)))
              exact W.endl ⟨_, ⟨_, rfl, k7, by rw [htn, if_neg (fun h => by have := hb'.2 h; rw [hc] at this; simp at this)], hB7⟩, (by repeat (first | exact trivial | refine And.intro rfl ?_))⟩
          · rintro ρ w9 ⟨z, rfl, k9, hz, hB9⟩
            (repeat (first | with_reducible refine W.seq ?_ | with_reducible refine Ops.nil ?_ | with_reducible refine W.region ?_ | refine Ops.pu rfl rfl rfl ?_ | refine Ops.ar rfl rfl rfl (by omega) ?_ | refine Ops.yes rfl rfl rfl ?_ | refine Ops.no rfl rfl rfl rfl rfl ?_ | refine Ops.nu rfl rfl rfl rfl ?_ | with_reducible refine W.skip ?_ | with_reducible refine W.endb ?_ | with_reducible refine W.block ?_ | refine W.exit rfl ?_ | refine Ops.len rfl rfl rfl rfl rfl ?_ | refine Ops.flp rfl rfl rfl rfl rfl ?_ | refine Ops.max rfl rfl rfl rfl rfl ?_ | refine Ops.min rfl rfl rfl rfl rfl ?_ | refine Ops.eqB rfl rfl rfl rfl rfl rfl ?_ | refine Ops.neB rfl rfl rfl rfl rfl rfl ?_ | (apply Ops.ldB rfl rfl rfl rfl rfl; assumption; rfl)))
            refine Ops.ld2 rfl rfl rfl rfl rfl rfl (hB9.cell rfl) (by rw [add_lit]; exact hB9.cell rfl) ?_
            refine Ops.push2 rfl rfl rfl rfl rfl rfl rfl rfl rfl rfl rfl (fun _ => rfl) rfl rfl (own_kp hown2 k9 (fun i hi e => by have := (hown2.lt i hi).2; omega)) (by omega) (fun lv' p w10 ho10 k10 hn10 => ?_)
            have hb9 : Below w4.heap.size w4 w9 := Below.at_ hb5 k9 (fun i hi => by have := hb5.size; omega)
            (repeat (first | with_reducible refine W.seq ?_ | with_reducible refine Ops.nil ?_ | with_reducible refine W.region ?_ | refine Ops.pu rfl rfl rfl ?_ | refine Ops.ar rfl rfl rfl (by omega) ?_ | refine Ops.yes rfl rfl rfl ?_ | refine Ops.no rfl rfl rfl rfl rfl ?_ | refine Ops.nu rfl rfl rfl rfl ?_ | with_reducible refine W.skip ?_ | with_reducible refine W.endb ?_ | with_reducible refine W.block ?_ | refine W.exit rfl ?_ | refine Ops.len rfl rfl rfl rfl rfl ?_ | refine Ops.flp rfl rfl rfl rfl rfl ?_ | refine Ops.max rfl rfl rfl rfl rfl ?_ | refine Ops.min rfl rfl rfl rfl rfl ?_ | refine Ops.eqB rfl rfl rfl rfl rfl rfl ?_ | refine Ops.neB rfl rfl rfl rfl rfl rfl ?_ | (apply Ops.ldB rfl rfl rfl rfl rfl; assumption; rfl)))
            refine W.endl ⟨_, _, ⟨⟨j + 1, _, _, rfl, by omega, rfl, Below.at_ hb9 k10 (fun i hi => hge2 i hi), ho10, fun k hk => ?_, fun i hi => ?_⟩, by omega⟩, (by repeat (first | exact trivial | refine And.intro rfl ?_))⟩
            · rcases hn10 k hk with e | e
              · exact hge2 k e
              · have := hb9.size; omega
            · by_cases e : i = j
              · subst e
                refine ⟨?_, ?_⟩
                · rw [List.getD_eq_getElem?_getD, List.getElem?_append_right (by omega), hsj]; simp [hxl]
                · rw [List.getD_eq_getElem?_getD, List.getElem?_append_right (by omega), ← hz]; simp [hxl]
              · have := hxs i (by omega)
                rw [gapp (by omega), gapp (by omega)]
                exact this
      · have hlt : j = R + 1 := by simp at hc; omega
        subst hlt
        (repeat (first | with_reducible refine W.seq ?_ | with_reducible refine Ops.nil ?_ | with_reducible refine W.region ?_ | refine Ops.pu rfl rfl rfl ?_ | refine Ops.ar rfl rfl rfl (by omega) ?_ | refine Ops.yes rfl rfl rfl ?_ | refine Ops.no rfl rfl rfl rfl rfl ?_ | refine Ops.nu rfl rfl rfl rfl ?_ | with_reducible refine W.skip ?_ | with_reducible refine W.endb ?_ | with_reducible refine W.block ?_ | refine W.exit rfl ?_ | refine Ops.len rfl rfl rfl rfl rfl ?_ | refine Ops.flp rfl rfl rfl rfl rfl ?_ | refine Ops.max rfl rfl rfl rfl rfl ?_ | refine Ops.min rfl rfl rfl rfl rfl ?_ | refine Ops.eqB rfl rfl rfl rfl rfl rfl ?_ | refine Ops.neB rfl rfl rfl rfl rfl rfl ?_ | (apply Ops.ldB rfl rfl rfl rfl rfl; assumption; rfl)))
        obtain ⟨g2, cap2, rfl, hc2⟩ := own_at hown2 (by omega)
        have hlen : (tameM ps ws most).length = R + 1 := by rw [tameM_len, hR]
        have hat : ∀ i, i < R + 1 → (tameM ps ws most).getD i ([], 0) = tameN ps ws C i := fun i hi => by rw [tameM_at (by omega), hR, hC]
        refine W.fret rfl ⟨⟨some ⟨g2, 0, none⟩, cap2, svs, by rw [hlen]; rfl, fun _ => ⟨_, rfl, fun i hi => ?_⟩, fun i hi => ?_⟩, hL5.bel⟩
        · rw [hlen] at hi
          have := hxs i hi
          rw [add_lit, add_lit, Nat.zero_add, hat i hi]
          exact ⟨by rw [hc2 _ (by omega), this.1], by rw [hc2 _ (by omega), this.2]⟩
        · rw [hlen] at hi
          rw [hat i hi]
          exact own_sl (z := (0 : Int)) (hL5.own i (by omega))
end Go.Proofs.Ytdiljpnfochndaa
/- Values: more for the leaves is not less for the root. -/
namespace Go.Proofs.Ytdiljpnfochndaa.HP
theorem foldl_mono {f : Int → Int → Int} (hf : ∀ a b c d, a ≤ b → c ≤ d → f a c ≤ f b d) : ∀ (cs : List Int) (g h : Int → Int) (a b : Int), a ≤ b → (∀ c ∈ cs, g c ≤ h c) → (cs.map g).foldl f a ≤ (cs.map h).foldl f b
  | [], _, _, _, _, hab, _ => hab
  | c :: r, g, h, a, b, hab, hc => foldl_mono hf r g h _ _ (hf _ _ _ _ hab (hc c (by simp))) fun x hx => hc x (by simp [hx])
theorem maxL_mono (cs : List Int) (g h : Int → Int) (hc : ∀ c ∈ cs, g c ≤ h c) : maxL (cs.map g) ≤ maxL (cs.map h) := by
  cases cs with
  | nil => simp [maxL]
  | cons c r => exact foldl_mono (fun a b c d h1 h2 => by omega) r g h _ _ (hc c (by simp)) fun x hx => hc x (by simp [hx])
theorem minL_mono (cs : List Int) (g h : Int → Int) (hc : ∀ c ∈ cs, g c ≤ h c) : minL (cs.map g) ≤ minL (cs.map h) := by
  cases cs with
  | nil => simp [minL]
  | cons c r => exact foldl_mono (fun a b c d h1 h2 => by omega) r g h _ _ (hc c (by simp)) fun x hx => hc x (by simp [hx])
theorem val_mono {l : List Nd} {dep : List Int} (hT : TF l dep) {f g : Int → Int} {vs us : List Int} (hv : ValP l dep f vs) (hu : ValP l dep g us) (h : ∀ i : Nat, i < l.length → leafB l i = true → f i ≤ g i) : ∀ j : Nat, j < l.length → vs.getD j 0 ≤ us.getD j 0 := by
  have key : ∀ d j : Nat, l.length - j = d → j < l.length → vs.getD j 0 ≤ us.getD j 0 := by
    intro d
    induction d using Nat.strongRecOn with
    | _ d ih =>
      intro j hd hj
      have hk : ∀ c ∈ kid l j, rd vs c ≤ rd us c := fun c hc => by
        obtain ⟨h1, h2⟩ := mem_kid hT hj hc
        exact ih (l.length - c.toNat) (by omega) c.toNat rfl (by omega)
      rw [hv.at_ j hj, hu.at_ j hj]
      unfold NV
      split
      · rename_i hl; exact h j hj hl
      · split
        · exact maxL_mono _ _ _ hk
        · exact minL_mono _ _ _ hk
  exact fun j hj => key _ j rfl hj
end Go.Proofs.Ytdiljpnfochndaa.HP
namespace Go.Proofs.Ytdiljpnfochndaa
open Go Go.RowKit Go.Proofs.Ytdiljpnfochndaa.VW
open Go.Proofs.Ytdiljpnfochndaa.HP (Nd kid wor leafB rd modM modM_bd chM chM_len rounds tameM tameN addKid tameM_len tameM_at tame_TK gameOf gameOf_TF ValP far)
attribute [local irreducible] W Ops
theorem pickL_mem {p : Nat → Bool} {n : Nat} {x : Int} : x ∈ pickL p n ↔ ∃ i : Nat, i < n ∧ p i = true ∧ x = i := by
  simp only [pickL, List.mem_map, List.mem_filter, List.mem_range]
  exact ⟨fun ⟨i, h, e⟩ => ⟨i, h.1, h.2, e.symm⟩, fun ⟨i, h1, h2, e⟩ => ⟨i, ⟨h1, h2⟩, e.symm⟩⟩
theorem pickL_up (p : Nat → Bool) (n : Nat) : (pickL p n).Pairwise (· < ·) := by
  unfold pickL
  rw [List.pairwise_map]
  exact ((List.pairwise_lt_range (n := n)).filter _).imp fun h => by omega
theorem up_listed {l : List Nd} {xs : List Int} (hu : xs.Pairwise (· < ·)) (hm : ∀ x ∈ xs, 0 ≤ x ∧ x < l.length ∧ leafB l x = true) : Listed l xs := by
  intro k hk
  have hx : xs.getD k 0 ∈ xs := by
    rw [List.getD_eq_getElem?_getD, List.getElem?_eq_getElem hk]
    exact List.getElem_mem hk
  obtain ⟨h1, h2, h3⟩ := hm _ hx
  refine ⟨h1, by omega, h3, fun h0 => ?_⟩
  have := List.pairwise_iff_getElem.1 hu (k - 1) k (by omega) hk (by omega)
  simpa [List.getD_eq_getElem?_getD, hk, show k - 1 < xs.length by omega] using this
theorem pickL_listed {l : List Nd} {p : Nat → Bool} (hp : ∀ i : Nat, i < l.length → p i = true → leafB l i = true) : Listed l (pickL p l.length) :=
  up_listed (pickL_up p _) fun x hx => by
    obtain ⟨i, h1, h2, rfl⟩ := pickL_mem.1 hx
    exact ⟨by omega, by omega, hp i h1 h2⟩
def moreP (l : List Nd) (os : List Int) (i : Nat) : Bool := leafB l i && decide (i < os.length) && decide (0 < modM (os.getD i 0) 4)
theorem some_more {l : List Nd} {os : List Int} {i : Nat} (h : someP l os i = true) : moreP l os i = true := by
  simp only [someP, moreP, Bool.and_eq_true, beq_iff_eq, decide_eq_true_eq] at h ⊢
  refine ⟨h.1, ?_⟩
  have := h.2
  unfold modM at *
  omega
theorem worst_mono {l : List Nd} (hw : ∀ a : Nat, a < l.length → -100 ≤ wor l a) {xs ys : List Int} (h : ∀ x ∈ xs, x ∈ ys) (i : Nat) (hi : i < l.length) : worstF l xs i ≤ worstF l ys i := by
  unfold worstF
  have := hw i hi
  by_cases h1 : (i : Int) ∈ xs
  · rw [if_pos (by simpa using h1), if_pos (by simpa using h _ h1)]
    omega
  · rw [if_neg (by simpa using h1)]
    split
    · simp only [far]; omega
    · omega
set_option maxRecDepth 100000 in
theorem more_c {w : World} {pv wv ov : Value} {ps ws os : List Int} {b : Int} (hp : SlI w pv ps) (hw : SlI w wv ws) (ho : SlI w ov os) :
    Calls Try.prog 6 #[pv, wv, ov, .int .i64 b] w (Ret fun r w' => r = .bool true ∧ Below w.heap.size w w') := by
  refine calls_W (vs := [_, _, _, _]) Try.func6 rfl (by kernel_rfl) rfl ?_
  (repeat (first | with_reducible refine W.seq ?_ | with_reducible refine Ops.nil ?_ | with_reducible refine W.region ?_ | refine Ops.pu rfl rfl rfl ?_ | refine Ops.ar rfl rfl rfl (by omega) ?_ | refine Ops.yes rfl rfl rfl ?_ | refine Ops.no rfl rfl rfl rfl rfl ?_ | refine Ops.nu rfl rfl rfl rfl ?_ | with_reducible refine W.skip ?_ | with_reducible refine W.endb ?_ | with_reducible refine W.block ?_ | refine W.exit rfl ?_ | refine Ops.len rfl rfl rfl rfl rfl ?_ | refine Ops.flp rfl rfl rfl rfl rfl ?_ | refine Ops.max rfl rfl rfl rfl rfl ?_ | refine Ops.min rfl rfl rfl rfl rfl ?_ | refine Ops.eqB rfl rfl rfl rfl rfl rfl ?_ | refine Ops.neB rfl rfl rfl rfl rfl rfl ?_ | (apply Ops.ldB rfl rfl rfl rfl rfl; assumption; rfl)))
  refine Ops.call rfl rfl rfl rfl rfl (tame_c (most := 60) hp hw (by decide) (by decide)) (fun tv w1 hR => ?_)
  obtain ⟨hT1, hb1⟩ := hR
  have hTK := tame_TK (ps := ps) (ws := ws) (most := 60) (by decide) (by decide)
  generalize tameM ps ws 60 = l at *
  obtain ⟨dep, hg⟩ := hTK.game
  have hTF := gameOf_TF hg
  have hn60 := hTF.n60
  have hn1 := hTF.n1
  have hmb := modM_bd b (n := 201) (by omega)
  (repeat (first | with_reducible refine W.seq ?_ | with_reducible refine Ops.nil ?_ | with_reducible refine W.region ?_ | refine Ops.pu rfl rfl rfl ?_ | refine Ops.ar rfl rfl rfl (by omega) ?_ | refine Ops.yes rfl rfl rfl ?_ | refine Ops.no rfl rfl rfl rfl rfl ?_ | refine Ops.nu rfl rfl rfl rfl ?_ | with_reducible refine W.skip ?_ | with_reducible refine W.endb ?_ | with_reducible refine W.block ?_ | refine W.exit rfl ?_ | refine Ops.len rfl rfl rfl rfl rfl ?_ | refine Ops.flp rfl rfl rfl rfl rfl ?_ | refine Ops.max rfl rfl rfl rfl rfl ?_ | refine Ops.min rfl rfl rfl rfl rfl ?_ | refine Ops.eqB rfl rfl rfl rfl rfl rfl ?_ | refine Ops.neB rfl rfl rfl rfl rfl rfl ?_ | (apply Ops.ldB rfl rfl rfl rfl rfl; assumption; rfl)))
  refine Ops.callS rfl rfl rfl rfl rfl (mod_c _ _ _ (by decide) (by decide)) ?_
  generalize modM b 201 = b' at *
  (repeat (first | with_reducible refine W.seq ?_ | with_reducible refine Ops.nil ?_ | with_reducible refine W.region ?_ | refine Ops.pu rfl rfl rfl ?_ | refine Ops.ar rfl rfl rfl (by omega) ?_ | refine Ops.yes rfl rfl rfl ?_ | refine Ops.no rfl rfl rfl rfl rfl ?_ | refine Ops.nu rfl rfl rfl rfl ?_ | with_reducible refine W.skip ?_ | with_reducible refine W.endb ?_ | with_reducible refine W.block ?_ | refine W.exit rfl ?_ | refine Ops.len rfl rfl rfl rfl rfl ?_ | refine Ops.flp rfl rfl rfl rfl rfl ?_ | refine Ops.max rfl rfl rfl rfl rfl ?_ | refine Ops.min rfl rfl rfl rfl rfl ?_ | refine Ops.eqB rfl rfl rfl rfl rfl rfl ?_ | refine Ops.neB rfl rfl rfl rfl rfl rfl ?_ | (apply Ops.ldB rfl rfl rfl rfl rfl; assumption; rfl)))
  refine Ops.call rfl rfl rfl rfl rfl (some_c hT1 hn60 (Sl.below ho hb1)) (fun sv w2 hI2 => ?_)
  have hb2 := hb1.trans (hI2.bel.mono hb1.size)
  have hT2 := hT1.below hI2.bel
  obtain ⟨At, ct, rfl⟩ := hT2.sl
  have hol := Sl.len ho
  obtain ⟨A2, c2, rfl⟩ := Sl.sl ho
  have hsv := hI2.sl
  have hone : sv.oneCell' = true := by obtain ⟨A, c, h⟩ := Sl.sl hsv; rw [h]; rfl
  (repeat (first | with_reducible refine W.seq ?_ | with_reducible refine Ops.nil ?_ | with_reducible refine W.region ?_ | refine Ops.pu rfl rfl rfl ?_ | refine Ops.ar rfl rfl rfl (by omega) ?_ | refine Ops.yes rfl rfl rfl ?_ | refine Ops.no rfl rfl rfl rfl rfl ?_ | refine Ops.nu rfl rfl rfl rfl ?_ | with_reducible refine W.skip ?_ | with_reducible refine W.endb ?_ | with_reducible refine W.block ?_ | refine W.exit rfl ?_ | refine Ops.len rfl rfl rfl rfl rfl ?_ | refine Ops.flp rfl rfl rfl rfl rfl ?_ | refine Ops.max rfl rfl rfl rfl rfl ?_ | refine Ops.min rfl rfl rfl rfl rfl ?_ | refine Ops.eqB rfl rfl rfl rfl rfl rfl ?_ | refine Ops.neB rfl rfl rfl rfl rfl rfl ?_ | (apply Ops.ldB rfl rfl rfl rfl rfl; assumption; rfl)))
  refine W.loop (fun m ρ w3 => ∃ (j : Nat) (lv : Value), m = l.length - j ∧ j ≤ l.length ∧ ρ = [(2, .slice A2 os.length c2), (3, .int .i64 (b' - 100)), (9, .slice At l.length ct), (10, sv), (11, lv), (12, .int .i64 j)] ∧ FInv w2 w3 lv (pickL (moreP l os) j))
    ⟨_, _, ⟨0, _, rfl, Nat.zero_le _, rfl, FInv.nil (Below.refl _ _)⟩, (by repeat (first | exact trivial | refine And.intro rfl ?_))⟩ ?_
  rintro m ρ w3 ⟨j, lv, rfl, hj, rfl, hI⟩
  have hb3 := hI.bel
  have ho3 := Sl.below ho (hb2.trans (hb3.mono hb2.size))
  have hpl := pickL_len (moreP l os) j
  (repeat (first | with_reducible refine W.seq ?_ | with_reducible refine Ops.nil ?_ | with_reducible refine W.region ?_ | refine Ops.pu rfl rfl rfl ?_ | refine Ops.ar rfl rfl rfl (by omega) ?_ | refine Ops.yes rfl rfl rfl ?_ | refine Ops.no rfl rfl rfl rfl rfl ?_ | refine Ops.nu rfl rfl rfl rfl ?_ | with_reducible refine W.skip ?_ | with_reducible refine W.endb ?_ | with_reducible refine W.block ?_ | refine W.exit rfl ?_ | refine Ops.len rfl rfl rfl rfl rfl ?_ | refine Ops.flp rfl rfl rfl rfl rfl ?_ | refine Ops.max rfl rfl rfl rfl rfl ?_ | refine Ops.min rfl rfl rfl rfl rfl ?_ | refine Ops.eqB rfl rfl rfl rfl rfl rfl ?_ | refine Ops.neB rfl rfl rfl rfl rfl rfl ?_ | (apply Ops.ldB rfl rfl rfl rfl rfl; assumption; rfl)))
  refine W.cond rfl (fun hc => ?_) (fun hc => ?_)
  · have hlt : j < l.length := by simp at hc; omega
    (repeat (first | with_reducible refine W.seq ?_ | with_reducible refine Ops.nil ?_ | with_reducible refine W.region ?_ | refine Ops.pu rfl rfl rfl ?_ | refine Ops.ar rfl rfl rfl (by omega) ?_ | refine Ops.yes rfl rfl rfl ?_ | refine Ops.no rfl rfl rfl rfl rfl ?_ | refine Ops.nu rfl rfl rfl rfl ?_ | with_reducible refine W.skip ?_ | with_reducible refine W.endb ?_ | with_reducible refine W.block ?_ | refine W.exit rfl ?_ | refine Ops.len rfl rfl rfl rfl rfl ?_ | refine Ops.flp rfl rfl rfl rfl rfl ?_ | refine Ops.max rfl rfl rfl rfl rfl ?_ | refine Ops.min rfl rfl rfl rfl rfl ?_ | refine Ops.eqB rfl rfl rfl rfl rfl rfl ?_ | refine Ops.neB rfl rfl rfl rfl rfl rfl ?_ | (apply Ops.ldB rfl rfl rfl rfl rfl; assumption; rfl)))
    refine Ops.rdK rfl rfl rfl rfl rfl rfl rfl rfl rfl rfl rfl rfl rfl rfl rfl hT2 hb3 (by omega) (by omega) (fun cv p q hcv => ?_)
    obtain ⟨Ac, cc, rfl⟩ := Sl.sl hcv
    refine Ops.cut (fun ρ w' => ∃ b : Bool, ρ = [(2, .slice A2 os.length c2), (3, .int .i64 (b' - 100)), (9, .slice At l.length ct), (10, sv), (11, lv), (12, .int .i64 j), (54, .bool b)] ∧ w' = w3 ∧ b = moreP l os j) ?_ ?_
    · (repeat' (first | with_reducible refine W.seq ?_ | with_reducible refine Ops.nil ?_ | with_reducible refine W.region ?_ | refine Ops.pu rfl rfl rfl ?_ | refine Ops.ar rfl rfl rfl (by omega) ?_ | refine Ops.yes rfl rfl rfl ?_ | refine Ops.no rfl rfl rfl rfl rfl ?_ | refine Ops.nu rfl rfl rfl rfl ?_ | with_reducible refine W.skip ?_ | with_reducible refine W.endb ?_ | with_reducible refine W.block ?_ | refine W.exit rfl ?_ | refine Ops.len rfl rfl rfl rfl rfl ?_ | refine Ops.flp rfl rfl rfl rfl rfl ?_ | refine Ops.max rfl rfl rfl rfl rfl ?_ | refine Ops.min rfl rfl rfl rfl rfl ?_ | refine Ops.eqB rfl rfl rfl rfl rfl rfl ?_ | refine Ops.neB rfl rfl rfl rfl rfl rfl ?_ | (apply Ops.ldB rfl rfl rfl rfl rfl; assumption; rfl) | refine Ops.gdT rfl rfl rfl rfl (fun _ => ?_) (fun _ => ?_) | refine Ops.gdF rfl rfl rfl rfl (fun _ => ?_) (fun _ => ?_) | refine Ops.callS rfl rfl rfl rfl rfl (mod_c _ _ _ (by decide) (by decide)) ?_ | (refine Ops.rdSg (enc := Value.int .i64) (z := (0 : Int)) rfl rfl rfl rfl rfl rfl rfl rfl rfl rfl rfl rfl rfl rfl ho3 (by omega) (by rename_i hh; simp at hh; omega) (fun p => ?_))))
      all_goals refine W.endl ⟨_, ⟨_, rfl, rfl, ?_⟩, (by repeat (first | exact trivial | refine And.intro rfl ?_))⟩
      · rename_i h1 h2
        unfold moreP
        rw [leafB_len, h1, show decide (j < os.length) = true by simpa using h2]
        rfl
      · rename_i h1 h2
        unfold moreP
        rw [leafB_len, h1, show decide (j < os.length) = false by simpa using h2]
        rfl
      · rename_i h1
        unfold moreP
        rw [leafB_len, h1]
        rfl
    · rintro ρ w4 ⟨b, rfl, rfl, hb⟩
      (repeat (first | with_reducible refine W.seq ?_ | with_reducible refine Ops.nil ?_ | with_reducible refine W.region ?_ | refine Ops.pu rfl rfl rfl ?_ | refine Ops.ar rfl rfl rfl (by omega) ?_ | refine Ops.yes rfl rfl rfl ?_ | refine Ops.no rfl rfl rfl rfl rfl ?_ | refine Ops.nu rfl rfl rfl rfl ?_ | with_reducible refine W.skip ?_ | with_reducible refine W.endb ?_ | with_reducible refine W.block ?_ | refine W.exit rfl ?_ | refine Ops.len rfl rfl rfl rfl rfl ?_ | refine Ops.flp rfl rfl rfl rfl rfl ?_ | refine Ops.max rfl rfl rfl rfl rfl ?_ | refine Ops.min rfl rfl rfl rfl rfl ?_ | refine Ops.eqB rfl rfl rfl rfl rfl rfl ?_ | refine Ops.neB rfl rfl rfl rfl rfl rfl ?_ | (apply Ops.ldB rfl rfl rfl rfl rfl; assumption; rfl)))
      have hs := pickL_succ (moreP l os) j
      rw [← hb] at hs
      refine W.cond rfl (fun hc2 => ?_) (fun hc2 => ?_)
      · rw [hc2, if_pos rfl] at hs
        (repeat (first | with_reducible refine W.seq ?_ | with_reducible refine Ops.nil ?_ | with_reducible refine W.region ?_ | refine Ops.pu rfl rfl rfl ?_ | refine Ops.ar rfl rfl rfl (by omega) ?_ | refine Ops.yes rfl rfl rfl ?_ | refine Ops.no rfl rfl rfl rfl rfl ?_ | refine Ops.nu rfl rfl rfl rfl ?_ | with_reducible refine W.skip ?_ | with_reducible refine W.endb ?_ | with_reducible refine W.block ?_ | refine W.exit rfl ?_ | refine Ops.len rfl rfl rfl rfl rfl ?_ | refine Ops.flp rfl rfl rfl rfl rfl ?_ | refine Ops.max rfl rfl rfl rfl rfl ?_ | refine Ops.min rfl rfl rfl rfl rfl ?_ | refine Ops.eqB rfl rfl rfl rfl rfl rfl ?_ | refine Ops.neB rfl rfl rfl rfl rfl rfl ?_ | (apply Ops.ldB rfl rfl rfl rfl rfl; assumption; rfl)))
        refine Ops.push rfl rfl rfl rfl rfl rfl rfl rfl rfl rfl rfl rfl (fun _ => rfl) rfl hI.own (by omega) (fun lv' p w5 ho5 k5 hn5 => ?_)
        have hI5 := hI.push ho5 k5 hn5
        rw [← hs] at hI5
        (repeat (first | with_reducible refine W.seq ?_ | with_reducible refine Ops.nil ?_ | with_reducible refine W.region ?_ | refine Ops.pu rfl rfl rfl ?_ | refine Ops.ar rfl rfl rfl (by omega) ?_ | refine Ops.yes rfl rfl rfl ?_ | refine Ops.no rfl rfl rfl rfl rfl ?_ | refine Ops.nu rfl rfl rfl rfl ?_ | with_reducible refine W.skip ?_ | with_reducible refine W.endb ?_ | with_reducible refine W.block ?_ | refine W.exit rfl ?_ | refine Ops.len rfl rfl rfl rfl rfl ?_ | refine Ops.flp rfl rfl rfl rfl rfl ?_ | refine Ops.max rfl rfl rfl rfl rfl ?_ | refine Ops.min rfl rfl rfl rfl rfl ?_ | refine Ops.eqB rfl rfl rfl rfl rfl rfl ?_ | refine Ops.neB rfl rfl rfl rfl rfl rfl ?_ | (apply Ops.ldB rfl rfl rfl rfl rfl; assumption; rfl)))
        exact W.endl ⟨_, _, ⟨⟨j + 1, _, rfl, by omega, rfl, hI5⟩, by omega⟩, (by repeat (first | exact trivial | refine And.intro rfl ?_))⟩
      · rw [hc2, if_neg (by simp), List.append_nil] at hs
        rw [← hs] at hI
        (repeat (first | with_reducible refine W.seq ?_ | with_reducible refine Ops.nil ?_ | with_reducible refine W.region ?_ | refine Ops.pu rfl rfl rfl ?_ | refine Ops.ar rfl rfl rfl (by omega) ?_ | refine Ops.yes rfl rfl rfl ?_ | refine Ops.no rfl rfl rfl rfl rfl ?_ | refine Ops.nu rfl rfl rfl rfl ?_ | with_reducible refine W.skip ?_ | with_reducible refine W.endb ?_ | with_reducible refine W.block ?_ | refine W.exit rfl ?_ | refine Ops.len rfl rfl rfl rfl rfl ?_ | refine Ops.flp rfl rfl rfl rfl rfl ?_ | refine Ops.max rfl rfl rfl rfl rfl ?_ | refine Ops.min rfl rfl rfl rfl rfl ?_ | refine Ops.eqB rfl rfl rfl rfl rfl rfl ?_ | refine Ops.neB rfl rfl rfl rfl rfl rfl ?_ | (apply Ops.ldB rfl rfl rfl rfl rfl; assumption; rfl)))
        exact W.endl ⟨_, _, ⟨⟨j + 1, _, rfl, by omega, rfl, hI⟩, by omega⟩, (by repeat (first | exact trivial | refine And.intro rfl ?_))⟩
  · have hlt : j = l.length := by simp at hc; omega
    subst hlt
    have hT3 := hT2.below hb3
    have hsv3 := Sl.below hsv hb3
    have hb03 := hb2.trans (hb3.mono hb2.size)
    have hls : Listed l (pickL (someP l os) l.length) := pickL_listed fun i _ h => by simp only [someP, Bool.and_eq_true] at h; exact h.1.1
    have hlm : Listed l (pickL (moreP l os) l.length) := pickL_listed fun i _ h => by simp only [moreP, Bool.and_eq_true] at h; exact h.1.1
    have hsub : ∀ x ∈ pickL (someP l os) l.length, x ∈ pickL (moreP l os) l.length := fun x hx => by
      obtain ⟨i, h1, h2, rfl⟩ := pickL_mem.1 hx
      exact pickL_mem.2 ⟨i, h1, some_more h2, rfl⟩
    generalize pickL (someP l os) l.length = S at *
    generalize pickL (moreP l os) l.length = M at *
    (repeat (first | with_reducible refine W.seq ?_ | with_reducible refine Ops.nil ?_ | with_reducible refine W.region ?_ | refine Ops.pu rfl rfl rfl ?_ | refine Ops.ar rfl rfl rfl (by omega) ?_ | refine Ops.yes rfl rfl rfl ?_ | refine Ops.no rfl rfl rfl rfl rfl ?_ | refine Ops.nu rfl rfl rfl rfl ?_ | with_reducible refine W.skip ?_ | with_reducible refine W.endb ?_ | with_reducible refine W.block ?_ | refine W.exit rfl ?_ | refine Ops.len rfl rfl rfl rfl rfl ?_ | refine Ops.flp rfl rfl rfl rfl rfl ?_ | refine Ops.max rfl rfl rfl rfl rfl ?_ | refine Ops.min rfl rfl rfl rfl rfl ?_ | refine Ops.eqB rfl rfl rfl rfl rfl rfl ?_ | refine Ops.neB rfl rfl rfl rfl rfl rfl ?_ | (apply Ops.ldB rfl rfl rfl rfl rfl; assumption; rfl)))
    refine Ops.call rfl rfl rfl rfl rfl (decides_c hT3 (by omega) hsv3) (fun r w5 hR => ?_)
    obtain ⟨hb5, hR⟩ := hR
    unfold DecR at hR
    rw [if_pos ⟨hls, by omega⟩, hg] at hR
    obtain ⟨va, hva, rfl⟩ := hR
    have hb05 := hb03.trans (hb5.mono hb03.size)
    have hT5 := hT3.below hb5
    have hsv5 := Sl.below hsv3 hb5
    have hlv5 := Sl.below hI.sl hb5
    (repeat (first | with_reducible refine W.seq ?_ | with_reducible refine Ops.nil ?_ | with_reducible refine W.region ?_ | refine Ops.pu rfl rfl rfl ?_ | refine Ops.ar rfl rfl rfl (by omega) ?_ | refine Ops.yes rfl rfl rfl ?_ | refine Ops.no rfl rfl rfl rfl rfl ?_ | refine Ops.nu rfl rfl rfl rfl ?_ | with_reducible refine W.skip ?_ | with_reducible refine W.endb ?_ | with_reducible refine W.block ?_ | refine W.exit rfl ?_ | refine Ops.len rfl rfl rfl rfl rfl ?_ | refine Ops.flp rfl rfl rfl rfl rfl ?_ | refine Ops.max rfl rfl rfl rfl rfl ?_ | refine Ops.min rfl rfl rfl rfl rfl ?_ | refine Ops.eqB rfl rfl rfl rfl rfl rfl ?_ | refine Ops.neB rfl rfl rfl rfl rfl rfl ?_ | (apply Ops.ldB rfl rfl rfl rfl rfl; assumption; rfl)))
    refine Ops.call rfl rfl rfl rfl rfl (decides_c hT5 (by omega) hsv5) (fun r w6 hR => ?_)
    obtain ⟨hb6, hR⟩ := hR
    unfold DecR at hR
    rw [if_pos ⟨hls, by omega⟩, hg] at hR
    obtain ⟨vb, hvb, rfl⟩ := hR
    have hb06 := hb05.trans (hb6.mono hb05.size)
    have hT6 := hT5.below hb6
    have hlv6 := Sl.below hlv5 hb6
    (repeat (first | with_reducible refine W.seq ?_ | with_reducible refine Ops.nil ?_ | with_reducible refine W.region ?_ | refine Ops.pu rfl rfl rfl ?_ | refine Ops.ar rfl rfl rfl (by omega) ?_ | refine Ops.yes rfl rfl rfl ?_ | refine Ops.no rfl rfl rfl rfl rfl ?_ | refine Ops.nu rfl rfl rfl rfl ?_ | with_reducible refine W.skip ?_ | with_reducible refine W.endb ?_ | with_reducible refine W.block ?_ | refine W.exit rfl ?_ | refine Ops.len rfl rfl rfl rfl rfl ?_ | refine Ops.flp rfl rfl rfl rfl rfl ?_ | refine Ops.max rfl rfl rfl rfl rfl ?_ | refine Ops.min rfl rfl rfl rfl rfl ?_ | refine Ops.eqB rfl rfl rfl rfl rfl rfl ?_ | refine Ops.neB rfl rfl rfl rfl rfl rfl ?_ | (apply Ops.ldB rfl rfl rfl rfl rfl; assumption; rfl)))
    refine Ops.call rfl rfl rfl rfl rfl (decides_c hT6 (by omega) hlv6) (fun r w7 hR => ?_)
    obtain ⟨hb7, hR⟩ := hR
    unfold DecR at hR
    rw [if_pos ⟨hlm, by omega⟩, hg] at hR
    obtain ⟨vc, hvc, rfl⟩ := hR
    have hb07 := hb06.trans (hb7.mono hb06.size)
    have hab : vb = va := ValP.uniq hTF hvb hva
    subst hab
    have hac := Go.Proofs.Ytdiljpnfochndaa.HP.val_mono hTF hva hvc (fun i hi _ => worst_mono (fun a ha => (hTF.wor a ha).1) hsub i hi) 0 (by omega)
    generalize vb.getD 0 0 = va0 at *
    generalize vc.getD 0 0 = vc0 at *
    have hx : decide (b' - 100 ≤ va0) = true → decide (b' - 100 - 1 ≤ va0) = true ∧ decide (b' - 100 ≤ vc0) = true := by simp; omega
    generalize decide (b' - 100 ≤ va0) = a at *
    generalize decide (b' - 100 - 1 ≤ va0) = c at *
    generalize decide (b' - 100 ≤ vc0) = d at *
    cases a with
    | true =>
      obtain ⟨rfl, rfl⟩ := hx rfl
      (repeat (first | with_reducible refine W.seq ?_ | with_reducible refine Ops.nil ?_ | with_reducible refine W.region ?_ | refine Ops.pu rfl rfl rfl ?_ | refine Ops.ar rfl rfl rfl (by omega) ?_ | refine Ops.yes rfl rfl rfl ?_ | refine Ops.no rfl rfl rfl rfl rfl ?_ | refine Ops.nu rfl rfl rfl rfl ?_ | with_reducible refine W.skip ?_ | with_reducible refine W.endb ?_ | with_reducible refine W.block ?_ | refine W.exit rfl ?_ | refine Ops.len rfl rfl rfl rfl rfl ?_ | refine Ops.flp rfl rfl rfl rfl rfl ?_ | refine Ops.max rfl rfl rfl rfl rfl ?_ | refine Ops.min rfl rfl rfl rfl rfl ?_ | refine Ops.eqB rfl rfl rfl rfl rfl rfl ?_ | refine Ops.neB rfl rfl rfl rfl rfl rfl ?_ | (apply Ops.ldB rfl rfl rfl rfl rfl; assumption; rfl)))
      refine Ops.call rfl rfl rfl rfl rfl (awake_c w7) (fun r w8 hR => ?_)
      obtain ⟨rfl, hb8⟩ := hR
      (repeat (first | with_reducible refine W.seq ?_ | with_reducible refine Ops.nil ?_ | with_reducible refine W.region ?_ | refine Ops.pu rfl rfl rfl ?_ | refine Ops.ar rfl rfl rfl (by omega) ?_ | refine Ops.yes rfl rfl rfl ?_ | refine Ops.no rfl rfl rfl rfl rfl ?_ | refine Ops.nu rfl rfl rfl rfl ?_ | with_reducible refine W.skip ?_ | with_reducible refine W.endb ?_ | with_reducible refine W.block ?_ | refine W.exit rfl ?_ | refine Ops.len rfl rfl rfl rfl rfl ?_ | refine Ops.flp rfl rfl rfl rfl rfl ?_ | refine Ops.max rfl rfl rfl rfl rfl ?_ | refine Ops.min rfl rfl rfl rfl rfl ?_ | refine Ops.eqB rfl rfl rfl rfl rfl rfl ?_ | refine Ops.neB rfl rfl rfl rfl rfl rfl ?_ | (apply Ops.ldB rfl rfl rfl rfl rfl; assumption; rfl)))
      exact W.fret rfl ⟨rfl, hb07.trans (hb8.mono hb07.size)⟩
    | false =>
      (repeat (first | with_reducible refine W.seq ?_ | with_reducible refine Ops.nil ?_ | with_reducible refine W.region ?_ | refine Ops.pu rfl rfl rfl ?_ | refine Ops.ar rfl rfl rfl (by omega) ?_ | refine Ops.yes rfl rfl rfl ?_ | refine Ops.no rfl rfl rfl rfl rfl ?_ | refine Ops.nu rfl rfl rfl rfl ?_ | with_reducible refine W.skip ?_ | with_reducible refine W.endb ?_ | with_reducible refine W.block ?_ | refine W.exit rfl ?_ | refine Ops.len rfl rfl rfl rfl rfl ?_ | refine Ops.flp rfl rfl rfl rfl rfl ?_ | refine Ops.max rfl rfl rfl rfl rfl ?_ | refine Ops.min rfl rfl rfl rfl rfl ?_ | refine Ops.eqB rfl rfl rfl rfl rfl rfl ?_ | refine Ops.neB rfl rfl rfl rfl rfl rfl ?_ | (apply Ops.ldB rfl rfl rfl rfl rfl; assumption; rfl)))
      refine Ops.call rfl rfl rfl rfl rfl (awake_c w7) (fun r w8 hR => ?_)
      obtain ⟨rfl, hb8⟩ := hR
      (repeat (first | with_reducible refine W.seq ?_ | with_reducible refine Ops.nil ?_ | with_reducible refine W.region ?_ | refine Ops.pu rfl rfl rfl ?_ | refine Ops.ar rfl rfl rfl (by omega) ?_ | refine Ops.yes rfl rfl rfl ?_ | refine Ops.no rfl rfl rfl rfl rfl ?_ | refine Ops.nu rfl rfl rfl rfl ?_ | with_reducible refine W.skip ?_ | with_reducible refine W.endb ?_ | with_reducible refine W.block ?_ | refine W.exit rfl ?_ | refine Ops.len rfl rfl rfl rfl rfl ?_ | refine Ops.flp rfl rfl rfl rfl rfl ?_ | refine Ops.max rfl rfl rfl rfl rfl ?_ | refine Ops.min rfl rfl rfl rfl rfl ?_ | refine Ops.eqB rfl rfl rfl rfl rfl rfl ?_ | refine Ops.neB rfl rfl rfl rfl rfl rfl ?_ | (apply Ops.ldB rfl rfl rfl rfl rfl; assumption; rfl)))
      exact W.fret rfl ⟨rfl, hb07.trans (hb8.mono hb07.size)⟩
end Go.Proofs.Ytdiljpnfochndaa
/- Efforts of two players with the same known leaves. -/
namespace Go.Proofs.Ytdiljpnfochndaa.HP
/-- What the efforts of one side are, at all nodes: in bounds; and small unless far. -/
theorem need_all {l : List Nd} {dep : List Int} {mx : Bool} {lf : Int → Int} {es : List Ef} (hT : TF l dep) (hN : NeedP l dep mx lf es) {Q : Nat → Prop}
    (h : ∀ j : Nat, j < l.length → (∀ c ∈ kid l j, ∃ i : Nat, c = i ∧ i < l.length ∧ Q i) → Q j) : ∀ j : Nat, j < l.length → Q j := by
  have key : ∀ d j : Nat, l.length - j = d → j < l.length → Q j := by
    intro d
    induction d using Nat.strongRecOn with
    | _ d ih =>
      intro j hd hj
      refine h j hj fun c hc => ?_
      obtain ⟨h1, h2⟩ := mem_kid hT hj hc
      exact ⟨c.toNat, by omega, by omega, ih (l.length - c.toNat) (by omega) c.toNat rfl (by omega)⟩
  exact fun j hj => key _ j rfl hj
theorem ed_nat (es : List Ef) (i : Nat) : ed es (i : Int) = es.getD i (0, []) := rfl
theorem pick_le {es : List Ef} : ∀ (cs : List Int) (a : Ef), (cs.foldl (pickF es) a).1 ≤ a.1 ∧ (∀ c ∈ cs, (cs.foldl (pickF es) a).1 ≤ (ed es c).1) ∧ (cs.foldl (pickF es) a = a ∨ ∃ c ∈ cs, cs.foldl (pickF es) a = ed es c)
  | [], a => ⟨Int.le_refl _, by simp, .inl rfl⟩
  | c :: r, a => by
    obtain ⟨h1, h2, h3⟩ := pick_le r (pickF es a c)
    have hp : (pickF es a c).1 ≤ a.1 ∧ (pickF es a c).1 ≤ (ed es c).1 ∧ (pickF es a c = a ∨ pickF es a c = ed es c) := by
      unfold pickF
      split
      · exact ⟨by omega, Int.le_refl _, .inr rfl⟩
      · exact ⟨Int.le_refl _, by omega, .inl rfl⟩
    refine ⟨Int.le_trans h1 hp.1, fun x hx => ?_, ?_⟩
    · rcases List.mem_cons.1 hx with rfl | hx
      · exact Int.le_trans h1 hp.2.1
      · exact h2 x hx
    · rcases h3 with h3 | ⟨x, hx, h3⟩
      · rcases hp.2.2 with e | e
        · exact .inl (by rw [List.foldl_cons, h3, e])
        · exact .inr ⟨c, by simp, by rw [List.foldl_cons, h3, e]⟩
      · exact .inr ⟨x, by simp [hx], by rw [List.foldl_cons, h3]⟩
/-- The sum, capped. -/
theorem join_sum {es : List Ef} : ∀ (cs : List Int) (a : Ef), 0 ≤ a.1 → a.1 ≤ far → (∀ c ∈ cs, 0 ≤ (ed es c).1 ∧ (ed es c).1 ≤ far) →
    a.1 ≤ (cs.foldl (joinF es) a).1 ∧ (∀ c ∈ cs, (ed es c).1 ≤ (cs.foldl (joinF es) a).1) ∧ ((cs.foldl (joinF es) a).1 = 0 ↔ a.1 = 0 ∧ ∀ c ∈ cs, (ed es c).1 = 0)
  | [], a, _, _, _ => ⟨Int.le_refl _, by simp, by simp⟩
  | c :: r, a, h0, h1, hc => by
    have hcb := hc c (by simp)
    have hj : (joinF es a c).1 = min far (a.1 + (ed es c).1) := rfl
    obtain ⟨q1, q2, q3⟩ := join_sum r (joinF es a c) (by rw [hj]; omega) (by rw [hj]; omega) fun x hx => hc x (by simp [hx])
    refine ⟨?_, fun x hx => ?_, ?_⟩
    · rw [List.foldl_cons]; rw [hj] at q1; omega
    · rw [List.foldl_cons]
      rcases List.mem_cons.1 hx with rfl | hx
      · rw [hj] at q1; omega
      · exact q2 x hx
    · rw [List.foldl_cons, q3, hj]
      constructor
      · rintro ⟨e1, e2⟩
        refine ⟨by simp only [far] at *; omega, fun x hx => ?_⟩
        rcases List.mem_cons.1 hx with rfl | hx
        · simp only [far] at *; omega
        · exact e2 x hx
      · rintro ⟨e1, e2⟩
        have := e2 c (by simp)
        exact ⟨by simp only [far]; omega, fun x hx => e2 x (by simp [hx])⟩
/-- Small efforts do not reach the cap. -/
theorem join_small {es : List Ef} : ∀ (cs : List Int) (a : Ef), 0 ≤ a.1 → a.1 ≤ a.2.length → (∀ c ∈ cs, 0 ≤ (ed es c).1 ∧ (ed es c).1 ≤ (ed es c).2.length) → (cs.foldl (joinF es) a).1 ≤ (cs.foldl (joinF es) a).2.length
  | [], a, _, h, _ => h
  | c :: r, a, h0, h, hc => by
    have hcb := hc c (by simp)
    refine join_small r (joinF es a c) (by simp only [joinF, far]; omega) ?_ fun x hx => hc x (by simp [hx])
    simp only [joinF, List.length_append]
    omega
structure Small (l : List Nd) (e : Ef) : Prop where
  lo : 0 ≤ e.1
  hi : e.1 ≤ far
  sm : e.1 < far → e.1 ≤ e.2.length
theorem need_small {l : List Nd} {dep : List Int} {mx : Bool} {lf : Int → Int} {es : List Ef} (hT : TF l dep) (hN : NeedP l dep mx lf es) (h : ∀ i : Nat, leafB l i = true → lf i = 0 ∨ lf i = 1 ∨ lf i = far) :
    ∀ j : Nat, j < l.length → GoodE l j (es.getD j (0, [])).2 ∧ Small l (es.getD j (0, [])) := by
  refine need_all hT hN (Q := fun j => GoodE l j (es.getD j (0, [])).2 ∧ Small l (es.getD j (0, []))) fun j hj hk => ?_
  have hk' : ∀ c ∈ kid l j, GoodE l c (ed es c).2 ∧ Small l (ed es c) := fun c hc => by obtain ⟨i, rfl, _, h⟩ := hk c hc; exact h
  rw [hN.at_ j hj]
  refine ⟨NE_good hT hj fun c hc => (hk' c hc).1, ?_⟩
  have hbd := NE_bd (mx := mx) (dep := dep) (lf := lf) (es := es) (j := j) (fun hl => by rcases h j hl with e | e | e <;> rw [e] <;> decide) fun c hc => ⟨(hk' c hc).2.lo, (hk' c hc).2.hi⟩
  refine ⟨hbd.1, hbd.2, ?_⟩
  unfold NE
  split
  · rename_i hl
    intro hlt
    rcases h j hl with e | e | e <;> simp only [e] at hlt ⊢ <;> simp at hlt ⊢
  · split
    · intro hlt
      obtain ⟨_, _, h3⟩ := pick_le (es := es) (kid l j) (far, [])
      rcases h3 with h3 | ⟨c, hc, h3⟩
      · rw [h3] at hlt; simp at hlt
      · rw [h3] at hlt ⊢; exact (hk' c hc).2.sm hlt
    · intro hlt
      obtain ⟨_, h2, _⟩ := join_sum (es := es) (kid l j) (0, []) (by decide) (by decide) fun c hc => ⟨(hk' c hc).2.lo, (hk' c hc).2.hi⟩
      exact join_small (kid l j) (0, []) (by decide) (by simp) fun c hc => ⟨(hk' c hc).2.lo, (hk' c hc).2.sm (Int.lt_of_le_of_lt (h2 c hc) hlt)⟩
theorem small60 {l : List Nd} {dep : List Int} (hT : TF l dep) {j : Int} {e : Ef} (hg : GoodE l j e.2) (hs : Small l e) (h : e.1 < far) : e.1 ≤ 60 := by
  have := hs.sm h
  have := hg.len
  have := hT.n60
  omega
theorem pickZ {es : List Ef} {cs : List Int} (h : ∀ c ∈ cs, 0 ≤ (ed es c).1) : (cs.foldl (pickF es) (far, [])).1 = 0 ↔ ∃ c ∈ cs, (ed es c).1 = 0 := by
  obtain ⟨h1, h2, h3⟩ := pick_le (es := es) cs (far, [])
  constructor
  · intro e
    rcases h3 with h3 | ⟨c, hc, h3⟩
    · rw [h3] at e; simp [far] at e
    · exact ⟨c, hc, by rw [← h3]; exact e⟩
  · rintro ⟨c, hc, e⟩
    have := h2 c hc
    rcases h3 with h3 | ⟨x, hx, h3⟩
    · rw [h3, e] at this; simp [far] at this
    · have q := h x hx; rw [← h3] at q; omega
theorem pickFar {es : List Ef} {cs : List Int} (h : ∀ c ∈ cs, (ed es c).1 ≤ far) : (cs.foldl (pickF es) (far, [])).1 = far ↔ ∀ c ∈ cs, (ed es c).1 = far := by
  obtain ⟨h1, h2, h3⟩ := pick_le (es := es) cs (far, [])
  constructor
  · intro e c hc
    have := h2 c hc
    have := h c hc
    omega
  · intro e
    rcases h3 with h3 | ⟨x, hx, h3⟩
    · rw [h3]
    · rw [h3]; exact e x hx
theorem joinFar {l : List Nd} {dep : List Int} (hT : TF l dep) {es : List Ef} {j : Nat} (hj : j < l.length) (h : ∀ c ∈ kid l j, GoodE l c (ed es c).2 ∧ Small l (ed es c)) : ((kid l j).foldl (joinF es) (0, [])).1 = far ↔ ∃ c ∈ kid l j, (ed es c).1 = far := by
  obtain ⟨h1, h2, h3⟩ := join_sum (es := es) (kid l j) (0, []) (by decide) (by decide) fun c hc => ⟨(h c hc).2.lo, (h c hc).2.hi⟩
  have hbd : ((kid l j).foldl (joinF es) (0, [])).1 ≤ far := by
    have : ∀ (cs : List Int) (a : Ef), a.1 ≤ far → (cs.foldl (joinF es) a).1 ≤ far := by
      intro cs
      induction cs with
      | nil => intro a ha; exact ha
      | cons c r ih => intro a ha; exact ih _ (by simp only [joinF]; omega)
    exact this _ _ (by decide)
  constructor
  · intro e
    by_cases hx : ∃ c ∈ kid l j, (ed es c).1 = far
    · exact hx
    · exfalso
      have hs := join_small (es := es) (kid l j) (0, []) (by decide) (by simp) fun c hc => ⟨(h c hc).2.lo, (h c hc).2.sm (by
        have := (h c hc).2.hi
        have : (ed es c).1 ≠ far := fun e => hx ⟨c, hc, e⟩
        omega)⟩
      have hg := (good_join hT hj (fun c hc => (h c hc).1) (kid l j).length (Nat.le_refl _)).1.len
      rw [List.take_length] at hg
      have := hT.n60
      rw [e] at hs
      simp only [far] at hs
      omega
  · rintro ⟨c, hc, e⟩
    have := h2 c hc
    omega
theorem joinZ {es : List Ef} {cs : List Int} (h : ∀ c ∈ cs, 0 ≤ (ed es c).1 ∧ (ed es c).1 ≤ far) : (cs.foldl (joinF es) (0, [])).1 = 0 ↔ ∀ c ∈ cs, (ed es c).1 = 0 := by
  obtain ⟨_, _, h3⟩ := join_sum (es := es) cs (0, []) (by decide) (by decide) h
  rw [h3]
  simp
theorem dual {l : List Nd} {dep : List Int} {tf ff : Int → Int} {es fs : List Ef} (hT : TF l dep) (hE : NeedP l dep true tf es) (hF : NeedP l dep false ff fs) (ht : ∀ i : Nat, leafB l i = true → tf i = 0 ∨ tf i = 1 ∨ tf i = far) (hf : ∀ i : Nat, leafB l i = true → ff i = 0 ∨ ff i = 1 ∨ ff i = far)
    (h : ∀ i : Nat, i < l.length → leafB l i = true → (tf i = 0 ↔ ff i = far) ∧ (ff i = 0 ↔ tf i = far)) : ∀ j : Nat, j < l.length → ((es.getD j (0, [])).1 = 0 ↔ (fs.getD j (0, [])).1 = far) ∧ ((fs.getD j (0, [])).1 = 0 ↔ (es.getD j (0, [])).1 = far) := by
  have sE := need_small hT hE ht
  have sF := need_small hT hF hf
  refine need_all hT hE (Q := fun j => ((es.getD j (0, [])).1 = 0 ↔ (fs.getD j (0, [])).1 = far) ∧ ((fs.getD j (0, [])).1 = 0 ↔ (es.getD j (0, [])).1 = far)) fun j hj hk => ?_
  have kE : ∀ c ∈ kid l j, GoodE l c (ed es c).2 ∧ Small l (ed es c) := fun c hc => by obtain ⟨i, rfl, hi, _⟩ := hk c hc; exact sE i hi
  have kF : ∀ c ∈ kid l j, GoodE l c (ed fs c).2 ∧ Small l (ed fs c) := fun c hc => by obtain ⟨i, rfl, hi, _⟩ := hk c hc; exact sF i hi
  have kD : ∀ c ∈ kid l j, ((ed es c).1 = 0 ↔ (ed fs c).1 = far) ∧ ((ed fs c).1 = 0 ↔ (ed es c).1 = far) := fun c hc => by obtain ⟨i, rfl, hi, h⟩ := hk c hc; exact h
  rw [hE.at_ j hj, hF.at_ j hj]
  unfold NE
  by_cases hl : leafB l j = true
  · rw [if_pos hl, if_pos hl]; exact h j hj hl
  · rw [if_neg hl, if_neg hl]
    by_cases he : evB dep j = true
    · rw [if_pos (by rw [he]; rfl), if_neg (by rw [he]; simp), pickZ fun c hc => (kE c hc).2.lo, pickFar fun c hc => (kE c hc).2.hi, joinFar hT hj kF, joinZ fun c hc => ⟨(kF c hc).2.lo, (kF c hc).2.hi⟩]
      exact ⟨⟨fun ⟨c, hc, e⟩ => ⟨c, hc, (kD c hc).1.1 e⟩, fun ⟨c, hc, e⟩ => ⟨c, hc, (kD c hc).1.2 e⟩⟩, ⟨fun e c hc => (kD c hc).2.1 (e c hc), fun e c hc => (kD c hc).2.2 (e c hc)⟩⟩
    · have he' : evB dep j = false := by simpa using he
      rw [if_neg (by rw [he']; simp), if_pos (by rw [he']; rfl), pickZ fun c hc => (kF c hc).2.lo, pickFar fun c hc => (kF c hc).2.hi, joinFar hT hj kE, joinZ fun c hc => ⟨(kE c hc).2.lo, (kE c hc).2.hi⟩]
      exact ⟨⟨fun e c hc => (kD c hc).1.1 (e c hc), fun e c hc => (kD c hc).1.2 (e c hc)⟩, ⟨fun ⟨c, hc, e⟩ => ⟨c, hc, (kD c hc).2.1 e⟩, fun ⟨c, hc, e⟩ => ⟨c, hc, (kD c hc).2.2 e⟩⟩⟩
theorem maxL_ge {cs : List Int} {g : Int → Int} {b : Int} (h0 : cs ≠ []) : b ≤ maxL (cs.map g) ↔ ∃ c ∈ cs, b ≤ g c := by
  cases cs with
  | nil => exact absurd rfl h0
  | cons c r =>
    have : ∀ (r : List Int) (a : Int), b ≤ (r.map g).foldl max a ↔ b ≤ a ∨ ∃ c ∈ r, b ≤ g c := by
      intro r
      induction r with
      | nil => intro a; simp
      | cons x r ih =>
        intro a
        have hm : b ≤ max a (g x) ↔ b ≤ a ∨ b ≤ g x := by omega
        rw [List.map_cons, List.foldl_cons, ih, hm, or_assoc]
        simp only [List.mem_cons, exists_eq_or_imp]
    simp only [maxL, List.map_cons]
    rw [this]
    simp
theorem minL_ge {cs : List Int} {g : Int → Int} {b : Int} (h0 : cs ≠ []) : b ≤ minL (cs.map g) ↔ ∀ c ∈ cs, b ≤ g c := by
  cases cs with
  | nil => exact absurd rfl h0
  | cons c r =>
    have : ∀ (r : List Int) (a : Int), b ≤ (r.map g).foldl min a ↔ b ≤ a ∧ ∀ c ∈ r, b ≤ g c := by
      intro r
      induction r with
      | nil => intro a; simp
      | cons x r ih =>
        intro a
        have hm : b ≤ min a (g x) ↔ b ≤ a ∧ b ≤ g x := by omega
        rw [List.map_cons, List.foldl_cons, ih, hm, and_assoc]
        simp only [List.mem_cons, forall_eq_or_imp]
    simp only [minL, List.map_cons]
    rw [this]
    simp
/-- No effort is needed exactly where the value suffices. -/
theorem zero_iff {l : List Nd} {dep : List Int} {tf wf : Int → Int} {es : List Ef} {vs : List Int} {b : Int} (hT : TF l dep) (hE : NeedP l dep true tf es) (hv : ValP l dep wf vs) (ht : ∀ i : Nat, leafB l i = true → tf i = 0 ∨ tf i = 1 ∨ tf i = far)
    (h : ∀ i : Nat, i < l.length → leafB l i = true → (tf i = 0 ↔ b ≤ wf i)) : ∀ j : Nat, j < l.length → ((es.getD j (0, [])).1 = 0 ↔ b ≤ vs.getD j 0) := by
  have sE := need_small hT hE ht
  refine need_all hT hE (Q := fun j => ((es.getD j (0, [])).1 = 0 ↔ b ≤ vs.getD j 0)) fun j hj hk => ?_
  have kE : ∀ c ∈ kid l j, GoodE l c (ed es c).2 ∧ Small l (ed es c) := fun c hc => by obtain ⟨i, rfl, hi, _⟩ := hk c hc; exact sE i hi
  have kD : ∀ c ∈ kid l j, ((ed es c).1 = 0 ↔ b ≤ rd vs c) := fun c hc => by obtain ⟨i, rfl, hi, h⟩ := hk c hc; exact h
  rw [hE.at_ j hj, hv.at_ j hj]
  unfold NE NV
  by_cases hl : leafB l j = true
  · rw [if_pos hl, if_pos hl]; exact h j hj hl
  · rw [if_neg hl, if_neg hl]
    have hne : kid l j ≠ [] := fun e => hl (by unfold leafB; rw [e]; rfl)
    by_cases he : evB dep j = true
    · rw [if_pos (by rw [he]; rfl), if_pos he, pickZ fun c hc => (kE c hc).2.lo, maxL_ge hne]
      exact ⟨fun ⟨c, hc, e⟩ => ⟨c, hc, (kD c hc).1 e⟩, fun ⟨c, hc, e⟩ => ⟨c, hc, (kD c hc).2 e⟩⟩
    · rw [if_neg (by simpa using he), if_neg he, joinZ fun c hc => ⟨(kE c hc).2.lo, (kE c hc).2.hi⟩, minL_ge hne]
      exact ⟨fun e c hc => (kD c hc).1 (e c hc), fun e c hc => (kD c hc).2 (e c hc)⟩
/-- What holds for the leaves' efforts and goes through least ones and sums. -/
theorem zero_mono {l : List Nd} {dep : List Int} {mx : Bool} {tf tg : Int → Int} {es gs : List Ef} (hT : TF l dep) (hE : NeedP l dep mx tf es) (hG : NeedP l dep mx tg gs) (ht : ∀ i : Nat, leafB l i = true → tf i = 0 ∨ tf i = 1 ∨ tf i = far) (hg : ∀ i : Nat, leafB l i = true → tg i = 0 ∨ tg i = 1 ∨ tg i = far)
    (h : ∀ i : Nat, i < l.length → leafB l i = true → tf i = 0 → tg i = 0) : ∀ j : Nat, j < l.length → (es.getD j (0, [])).1 = 0 → (gs.getD j (0, [])).1 = 0 := by
  have sE := need_small hT hE ht
  have sG := need_small hT hG hg
  refine need_all hT hE (Q := fun j => (es.getD j (0, [])).1 = 0 → (gs.getD j (0, [])).1 = 0) fun j hj hk => ?_
  have kE : ∀ c ∈ kid l j, GoodE l c (ed es c).2 ∧ Small l (ed es c) := fun c hc => by obtain ⟨i, rfl, hi, _⟩ := hk c hc; exact sE i hi
  have kG : ∀ c ∈ kid l j, GoodE l c (ed gs c).2 ∧ Small l (ed gs c) := fun c hc => by obtain ⟨i, rfl, hi, _⟩ := hk c hc; exact sG i hi
  have kD : ∀ c ∈ kid l j, (ed es c).1 = 0 → (ed gs c).1 = 0 := fun c hc => by obtain ⟨i, rfl, hi, h⟩ := hk c hc; exact h
  rw [hE.at_ j hj, hG.at_ j hj]
  unfold NE
  by_cases hl : leafB l j = true
  · rw [if_pos hl, if_pos hl]; exact h j hj hl
  · rw [if_neg hl, if_neg hl]
    by_cases he : (evB dep j == mx) = true
    · rw [if_pos he, if_pos he, pickZ fun c hc => (kE c hc).2.lo, pickZ fun c hc => (kG c hc).2.lo]
      exact fun ⟨c, hc, e⟩ => ⟨c, hc, kD c hc e⟩
    · rw [if_neg he, if_neg he, joinZ fun c hc => ⟨(kE c hc).2.lo, (kE c hc).2.hi⟩, joinZ fun c hc => ⟨(kG c hc).2.lo, (kG c hc).2.hi⟩]
      exact fun e c hc => kD c hc (e c hc)
/-- Where no leaf is free, no node is. -/
theorem zero_none {l : List Nd} {dep : List Int} {mx : Bool} {tf : Int → Int} {es : List Ef} (hT : TF l dep) (hE : NeedP l dep mx tf es) (ht : ∀ i : Nat, leafB l i = true → tf i = 0 ∨ tf i = 1 ∨ tf i = far)
    (h : ∀ i : Nat, i < l.length → leafB l i = true → tf i ≠ 0) : ∀ j : Nat, j < l.length → (es.getD j (0, [])).1 ≠ 0 := by
  have sE := need_small hT hE ht
  refine need_all hT hE (Q := fun j => (es.getD j (0, [])).1 ≠ 0) fun j hj hk => ?_
  have kE : ∀ c ∈ kid l j, GoodE l c (ed es c).2 ∧ Small l (ed es c) := fun c hc => by obtain ⟨i, rfl, hi, _⟩ := hk c hc; exact sE i hi
  have kD : ∀ c ∈ kid l j, (ed es c).1 ≠ 0 := fun c hc => by obtain ⟨i, rfl, hi, h⟩ := hk c hc; exact h
  rw [hE.at_ j hj]
  unfold NE
  by_cases hl : leafB l j = true
  · rw [if_pos hl]; exact h j hj hl
  · rw [if_neg hl]
    have hne : kid l j ≠ [] := fun e => hl (by unfold leafB; rw [e]; rfl)
    by_cases he : (evB dep j == mx) = true
    · rw [if_pos he, ne_eq, pickZ fun c hc => (kE c hc).2.lo]
      exact fun ⟨c, hc, e⟩ => kD c hc e
    · rw [if_neg he, ne_eq, joinZ fun c hc => ⟨(kE c hc).2.lo, (kE c hc).2.hi⟩]
      intro e
      cases hk2 : kid l j with
      | nil => exact hne hk2
      | cons c r => have hm : c ∈ kid l j := by rw [hk2]; simp
                    exact kD c hm (e c hm)
/-- Where every leaf is free or out of reach, so is every node. -/
theorem zero_or_far {l : List Nd} {dep : List Int} {mx : Bool} {tf : Int → Int} {es : List Ef} (hT : TF l dep) (hE : NeedP l dep mx tf es) (ht : ∀ i : Nat, leafB l i = true → tf i = 0 ∨ tf i = 1 ∨ tf i = far)
    (h : ∀ i : Nat, i < l.length → leafB l i = true → tf i = 0 ∨ tf i = far) : ∀ j : Nat, j < l.length → (es.getD j (0, [])).1 = 0 ∨ (es.getD j (0, [])).1 = far := by
  have sE := need_small hT hE ht
  refine need_all hT hE (Q := fun j => (es.getD j (0, [])).1 = 0 ∨ (es.getD j (0, [])).1 = far) fun j hj hk => ?_
  have kE : ∀ c ∈ kid l j, GoodE l c (ed es c).2 ∧ Small l (ed es c) := fun c hc => by obtain ⟨i, rfl, hi, _⟩ := hk c hc; exact sE i hi
  have kD : ∀ c ∈ kid l j, (ed es c).1 = 0 ∨ (ed es c).1 = far := fun c hc => by obtain ⟨i, rfl, hi, h⟩ := hk c hc; exact h
  rw [hE.at_ j hj]
  unfold NE
  by_cases hl : leafB l j = true
  · rw [if_pos hl]; exact h j hj hl
  · rw [if_neg hl]
    by_cases he : (evB dep j == mx) = true
    · rw [if_pos he]
      obtain ⟨_, _, h3⟩ := pick_le (es := es) (kid l j) (far, [])
      rcases h3 with h3 | ⟨c, hc, h3⟩
      · rw [h3]; exact .inr rfl
      · rw [h3]; exact kD c hc
    · rw [if_neg he, joinFar hT hj kE, joinZ fun c hc => ⟨(kE c hc).2.lo, (kE c hc).2.hi⟩]
      by_cases hx : ∃ c ∈ kid l j, (ed es c).1 = far
      · exact .inr hx
      · exact .inl fun c hc => by rcases kD c hc with e | e; exact e; exact absurd ⟨c, hc, e⟩ hx
end Go.Proofs.Ytdiljpnfochndaa.HP
/- Guards decided by proof; s[lo:]. -/
namespace Go.Proofs.Ytdiljpnfochndaa.VW
open Go Go.RowKit
section
variable {P : Program} [hT : Tab P] {n : Nat} {ds : List Deferred} {Φ : Post} {k : List It} {ρ : E} {w : World} {all : Array Oper} {l : List Oper} {md : Option (List Oper)}
omit hT in
theorem Ops.yesB {o : Oper} {j : Nat} {want b : Bool} {d d' : Nat} (hdst : o.dst = some d') (hg : o.guard = some (j, want)) (hj : (all[j]?).bind (·.dst) = some d) (hv : VW.look ρ d = some (.bool b)) (hb : b = want)
    (h : Ops md P n ds all k Φ ({ o with guard := none } :: l) ((d, .bool want) :: ρ) w) : Ops md P n ds all k Φ (o :: l) ρ w := Ops.gd hdst hg hj hv (fun _ => h) (fun e => by rw [hb] at e; cases want <;> simp at e)
omit hT in
theorem Ops.noB {o : Oper} {j : Nat} {want b : Bool} {d d' : Nat} (hdst : o.dst = some d') (hg : o.guard = some (j, want)) (hj : (all[j]?).bind (·.dst) = some d) (hv : VW.look ρ d = some (.bool b)) (hb : b = !want)
    (h : Ops md P n ds all k Φ l ((d', undef) :: (d, .bool (!want)) :: ρ) w) : Ops md P n ds all k Φ (o :: l) ρ w := Ops.gd hdst hg hj hv (fun e => by rw [hb] at e; cases want <;> simp at e) (fun _ => h)
/-- s[lo:] -/
theorem Ops.slL {o : Oper} {d t e sz m c : Nat} {x y : Operand} {A : Option Addr} {h : Int} (ho : o.op = .slice t x (some y) none none) (hd : o.dst = some d) (hg : o.guard = none)
    (ht : tyD P t = some (.slice e)) (hs : tyS P e = some sz) (hx : ev ρ x = some (.slice A m c)) (hy : ev ρ y = some (.int .i64 h)) (h0 : 0 ≤ h) (h1 : h ≤ m) (hmc : m ≤ c) (hk : ∀ A' c', (h.toNat < m → A' = A.map fun p => p.add (h.toNat * sz)) → Ops md P n ds all k Φ l ((d, .slice A' (m - h.toNat) c') :: ρ) w) : Ops md P n ds all k Φ (o :: l) ρ w := by
  obtain ⟨q, rfl⟩ := Int.eq_ofNat_of_zero_le h0
  have hq : q ≤ m := by omega
  refine Ops.valS hd hg (fun a hr => ?_) (hk (if c = q then A else A.map fun p => p.add (q * sz)) (c - q) (fun hlt => by rw [if_neg]; rfl; simp at hlt; omega))
  simp [execOp, ho, hr.ev hx, hr.ev hy, Instr.sliceAt, Instr.slice, Instr.sliceBounds, Instr.sliceBound, asIntOf, run_und (td_slice (tyD_ok ht)), run_sizeOf hs, hq]
theorem own_cap {e sz m c : Nat} {A : Option Addr} {xs : List Value} {k : Nat} (h : w.ownsRow 0 e sz (.slice A k c) m xs) : k ≤ c := by
  rcases h.2 with ⟨h, _⟩ | ⟨g, cap, cur, h, _, _, hnc, _⟩
  · simp at h; omega
  · simp at h; omega
theorem sl_drop {α : Type} {enc : α → Value} {z : α} {A A' : Option Addr} {c c' h : Nat} {xs : List α} (hs : Sl enc z w (.slice A xs.length c) xs) (ha : h < xs.length → A' = A.map fun p => p.add (h * 1)) : Sl enc z w (.slice A' (xs.length - h) c') (xs.drop h) := by
  obtain ⟨hm, A2, c2, he, hc⟩ := hs
  simp only [Value.slice.injEq, true_and] at he
  obtain ⟨rfl, rfl⟩ := he
  refine ⟨by rw [List.length_drop]; omega, A', c', by rw [List.length_drop], fun hp => ?_⟩
  rw [List.length_drop] at hp
  obtain ⟨a, rfl, h2⟩ := hc (by omega)
  refine ⟨a.add h, by rw [ha (by omega)]; simp, fun j hj => ?_⟩
  rw [List.length_drop] at hj
  have := h2 (h + j) (by omega)
  rw [show (a.add h).add j = a.add (h + j) by by_cases h0 : h = 0 <;> by_cases j0 : j = 0 <;> simp [Addr.add, h0, j0, Nat.add_assoc], this]
  simp [List.getD_eq_getElem?_getD]
end
end Go.Proofs.Ytdiljpnfochndaa.VW
namespace Go.Proofs.Ytdiljpnfochndaa
open Go Go.RowKit Go.Proofs.Ytdiljpnfochndaa.VW
open Go.Proofs.Ytdiljpnfochndaa.HP (Nd kid wor leafB rd modM modM_bd tameM tame_TK gameOf gameOf_TF ValP far Ef NeedP TF)
attribute [local irreducible] W Ops
theorem numF_3 {l : List Nd} {xs : List Int} {b : Int} {mx : Bool} (i : Int) : numF l xs b mx i = 0 ∨ numF l xs b mx i = 1 ∨ numF l xs b mx i = far := by
  unfold numF
  split
  · split
    · exact .inl rfl
    · exact .inr (.inr rfl)
  · exact .inr (.inl rfl)
theorem num_facts {l : List Nd} {dep S : List Int} {b y z : Int} (hT : TF l dep) (hy : NumR l dep S b true y) (hz : NumR l dep S b false z) : (y = 0 ↔ z = -1) ∧ (z = 0 ↔ y = -1) ∧ -1 ≤ y ∧ -1 ≤ z := by
  obtain ⟨es, hE, rfl⟩ := hy
  obtain ⟨fs, hF, rfl⟩ := hz
  have h1 := hT.n1
  have hd := Go.Proofs.Ytdiljpnfochndaa.HP.dual hT hE hF (fun i _ => numF_3 _) (fun i _ => numF_3 _) (fun i _ _ => by
    unfold numF
    by_cases hc : S.contains (i : Int)
    · rw [if_pos hc, if_pos hc]
      by_cases hw : b ≤ wor l i <;> simp [hw, far]
    · rw [if_neg hc, if_neg hc]; simp [far]) 0 (by omega)
  have sE := (Go.Proofs.Ytdiljpnfochndaa.HP.need_small hT hE (fun i _ => numF_3 _) 0 (by omega)).2
  have sF := (Go.Proofs.Ytdiljpnfochndaa.HP.need_small hT hF (fun i _ => numF_3 _) 0 (by omega)).2
  have e1 := sE.lo
  have e2 := sE.hi
  have e3 := sF.lo
  have e4 := sF.hi
  generalize (es.getD 0 (0, [])).1 = T at *
  generalize (fs.getD 0 (0, [])).1 = F at *
  simp only [far] at *
  split <;> split <;> omega
theorem num_dec {l : List Nd} {dep S vs : List Int} {b y : Int} (hT : TF l dep) (hb : -1000 ≤ b) (hy : NumR l dep S b true y) (hv : ValP l dep (worstF l S) vs) : y = 0 ↔ b ≤ vs.getD 0 0 := by
  obtain ⟨es, hE, rfl⟩ := hy
  have h1 := hT.n1
  have := Go.Proofs.Ytdiljpnfochndaa.HP.zero_iff (b := b) hT hE hv (fun i _ => numF_3 _) (fun i _ _ => by
    unfold numF worstF
    by_cases hc : S.contains (i : Int)
    · rw [if_pos hc, if_pos hc]
      by_cases hw : b ≤ wor l i <;> simp [hw, far]
    · rw [if_neg hc, if_neg hc]; simp [far]; omega) 0 (by omega)
  rw [← this]
  split
  · rename_i h
    constructor
    · intro e; omega
    · intro e; rw [e] at h; simp [far] at h
  · rfl
theorem num_all {l : List Nd} {dep S vs : List Int} {b y : Int} (hT : TF l dep) (hS : ∀ i : Nat, i < l.length → leafB l i = true → (i : Int) ∈ S) (hy : NumR l dep S b true y) (hv : ValP l dep (wor l) vs) : (b ≤ vs.getD 0 0 → y = 0) ∧ (vs.getD 0 0 < b → y = -1) := by
  obtain ⟨es, hE, rfl⟩ := hy
  have h1 := hT.n1
  have hc : ∀ i : Nat, i < l.length → leafB l i = true → S.contains (i : Int) = true := fun i hi hl => by simpa using hS i hi hl
  have hz := Go.Proofs.Ytdiljpnfochndaa.HP.zero_iff (b := b) hT hE hv (fun i _ => numF_3 _) (fun i hi hl => by
    unfold numF
    rw [if_pos (hc i hi hl)]
    by_cases hw : b ≤ wor l i <;> simp [hw, far]) 0 (by omega)
  have hf := Go.Proofs.Ytdiljpnfochndaa.HP.zero_or_far hT hE (fun i _ => numF_3 _) (fun i hi hl => by
    unfold numF
    rw [if_pos (hc i hi hl)]
    by_cases hw : b ≤ wor l i <;> simp [hw]) 0 (by omega)
  refine ⟨fun h => ?_, fun h => ?_⟩
  · rw [hz.2 h]; rfl
  · rcases hf with e | e
    · have := hz.1 e; omega
    · rw [e]; rfl
theorem num_none {l : List Nd} {dep : List Int} {b y : Int} {mx : Bool} (hT : TF l dep) (hy : NumR l dep [] b mx y) : y ≠ 0 := by
  obtain ⟨es, hE, rfl⟩ := hy
  have h1 := hT.n1
  have := Go.Proofs.Ytdiljpnfochndaa.HP.zero_none hT hE (fun i _ => numF_3 _) (fun i hi hl => by unfold numF; simp) 0 (by omega)
  split
  · omega
  · exact this
theorem num_mono {l : List Nd} {dep S S' : List Int} {b y y' : Int} {mx : Bool} (hT : TF l dep) (hy : NumR l dep S' b mx y') (hy' : NumR l dep S b mx y) (hs : ∀ x ∈ S', x ∈ S) : y' = 0 → y = 0 := by
  obtain ⟨es, hE, rfl⟩ := hy
  obtain ⟨fs, hF, rfl⟩ := hy'
  have h1 := hT.n1
  have := Go.Proofs.Ytdiljpnfochndaa.HP.zero_mono hT hE hF (fun i _ => numF_3 _) (fun i _ => numF_3 _) (fun i hi hl => by
    unfold numF
    by_cases hc : S'.contains (i : Int)
    · have hc2 : S.contains (i : Int) = true := by simpa using hs _ (by simpa using hc)
      rw [if_pos hc, if_pos hc2]
      exact id
    · rw [if_neg hc]; intro e; simp at e) 0 (by omega)
  intro e
  split at e
  · omega
  · rw [this e]; rfl
end Go.Proofs.Ytdiljpnfochndaa
