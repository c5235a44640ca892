/- A part of the walk: what this seat's statements share. -/
import Derived.Test.YtdiljpnfochndaaZHR
set_option linter.unusedSectionVars false
set_option linter.unusedVariables false
set_option linter.unusedSimpArgs false
namespace Go.Proofs.Ytdiljpnfochndaa
open Go Go.RowKit Go.Proofs.Ytdiljpnfochndaa.VW
open Go.Proofs.Ytdiljpnfochndaa.HP (Nd kid wor leafB rd modM modM_bd chM chM_len rounds tameM tameN addKid tameM_len tameM_at)
attribute [local irreducible] W Ops
theorem chM_sum (ps : List Int) : ∀ i j, ((chM ps i).getD j []).length ≤ i
  | 0, j => by
    cases j with
    | zero => simp [chM]
    | succ j => simp [chM]
  | i + 1, j => by
    have hp : (modM (ps.getD i 0) (i + 1)).toNat < (chM ps i).length := by
      have := modM_bd (ps.getD i 0) (n := (i : Int) + 1) (by omega)
      rw [chM_len]; omega
    have hl := chM_len ps i
    simp only [chM]
    by_cases e : j = (modM (ps.getD i 0) (i + 1)).toNat
    · subst e
      rw [Go.Proofs.Ytdiljpnfochndaa.HP.addKid_p hp, List.length_append, List.length_singleton]
      have := chM_sum ps i (modM (ps.getD i 0) (i + 1)).toNat
      omega
    · by_cases hj : j < (chM ps i).length
      · rw [Go.Proofs.Ytdiljpnfochndaa.HP.addKid_ne e hj]
        have := chM_sum ps i j
        omega
      · by_cases hj2 : j = (chM ps i).length
        · subst hj2
          rw [Go.Proofs.Ytdiljpnfochndaa.HP.addKid_new hp]
          simp
        · rw [List.getD_eq_getElem?_getD, List.getElem?_eq_none (by rw [Go.Proofs.Ytdiljpnfochndaa.HP.addKid_len]; omega)]
          simp
theorem gapp {α : Type} {xs ys : List α} {i : Nat} {d : α} (h : i < xs.length) : (xs ++ ys).getD i d = xs.getD i d := by rw [List.getD_eq_getElem?_getD, List.getElem?_append_left h, ← List.getD_eq_getElem?_getD]
set_option maxRecDepth 100000 in
theorem tame_c {w : World} {pv wv : Value} {ps ws : List Int} {most : Nat} (hp : SlI w pv ps) (hw : SlI w wv ws) (h1 : 1 ≤ most) (hm : most ≤ 60) :
    Calls Try.prog 33 #[pv, wv, .int .i64 most] w (Ret fun r w' => TreeM w' r (tameM ps ws most) ∧ Below w.heap.size w w') := by
  have hpl := Sl.len hp
  have hwl := Sl.len hw
  obtain ⟨Ap, cp, rfl⟩ := Sl.sl hp
  obtain ⟨Aw, cw, rfl⟩ := Sl.sl hw
  refine calls_W (vs := [_, _, _]) Try.func33 rfl (by kernel_rfl) rfl ?_
  (repeat (first | with_reducible refine W.seq ?_ | with_reducible refine Ops.nil ?_ | with_reducible refine W.region ?_ | refine Ops.pu rfl rfl rfl ?_ | refine Ops.ar rfl rfl rfl (by omega) ?_ | refine Ops.yes rfl rfl rfl ?_ | refine Ops.no rfl rfl rfl rfl rfl ?_ | refine Ops.nu rfl rfl rfl rfl ?_ | with_reducible refine W.skip ?_ | with_reducible refine W.endb ?_ | with_reducible refine W.block ?_ | refine W.exit rfl ?_ | refine Ops.len rfl rfl rfl rfl rfl ?_ | refine Ops.flp rfl rfl rfl rfl rfl ?_ | refine Ops.max rfl rfl rfl rfl rfl ?_ | refine Ops.min rfl rfl rfl rfl rfl ?_ | refine Ops.eqB rfl rfl rfl rfl rfl rfl ?_ | refine Ops.neB rfl rfl rfl rfl rfl rfl ?_ | (apply Ops.ldB rfl rfl rfl rfl rfl; assumption; rfl)))
  refine Ops.push rfl rfl rfl rfl rfl rfl rfl rfl rfl rfl rfl rfl (fun _ => rfl) rfl (own_nil w 24 1) (by omega) (fun ov p w1 ho1 k1 hn1 => ?_)
  have hL1 : LL w w1 ov (chM ps 0) [.slice none 0 0] := by
    have h0 : LL w w (.slice none 0 0) [] [] := ⟨Below.refl _ _, fun k hk => by simp [Value.ownBlock] at hk, own_nil _ _ _, fun j hj => by simp at hj, fun j hj => by simp at hj, fun j j' hj => by simp at hj⟩
    exact h0.pushNil ho1 k1 hn1
  (repeat (first | with_reducible refine W.seq ?_ | with_reducible refine Ops.nil ?_ | with_reducible refine W.region ?_ | refine Ops.pu rfl rfl rfl ?_ | refine Ops.ar rfl rfl rfl (by omega) ?_ | refine Ops.yes rfl rfl rfl ?_ | refine Ops.no rfl rfl rfl rfl rfl ?_ | refine Ops.nu rfl rfl rfl rfl ?_ | with_reducible refine W.skip ?_ | with_reducible refine W.endb ?_ | with_reducible refine W.block ?_ | refine W.exit rfl ?_ | refine Ops.len rfl rfl rfl rfl rfl ?_ | refine Ops.flp rfl rfl rfl rfl rfl ?_ | refine Ops.max rfl rfl rfl rfl rfl ?_ | refine Ops.min rfl rfl rfl rfl rfl ?_ | refine Ops.eqB rfl rfl rfl rfl rfl rfl ?_ | refine Ops.neB rfl rfl rfl rfl rfl rfl ?_ | (apply Ops.ldB rfl rfl rfl rfl rfl; assumption; rfl)))
  refine W.loop (fun m ρ w3 => ∃ (j : Nat) (ov : Value) (svs : List Value), m = rounds ps most - j ∧ j ≤ rounds ps most ∧ ρ = [(0, .slice Ap ps.length cp), (1, .slice Aw ws.length cw), (2, .int .i64 most), (7, ov), (8, .int .i64 (j + 1))] ∧ LL w w3 ov (chM ps j) svs)
    ⟨_, _, ⟨0, _, _, rfl, Nat.zero_le _, rfl, hL1⟩, (by repeat (first | exact trivial | refine And.intro rfl ?_))⟩ ?_
  clear hL1 hn1 k1 ho1
  rintro m ρ w3 ⟨j, ov, svs, rfl, hj, rfl, hL⟩
  have hrd : rounds ps most = min (most - 1) ps.length := rfl
  (repeat (first | with_reducible refine W.seq ?_ | with_reducible refine Ops.nil ?_ | with_reducible refine W.region ?_ | refine Ops.pu rfl rfl rfl ?_ | refine Ops.ar rfl rfl rfl (by omega) ?_ | refine Ops.yes rfl rfl rfl ?_ | refine Ops.no rfl rfl rfl rfl rfl ?_ | refine Ops.nu rfl rfl rfl rfl ?_ | with_reducible refine W.skip ?_ | with_reducible refine W.endb ?_ | with_reducible refine W.block ?_ | refine W.exit rfl ?_ | refine Ops.len rfl rfl rfl rfl rfl ?_ | refine Ops.flp rfl rfl rfl rfl rfl ?_ | refine Ops.max rfl rfl rfl rfl rfl ?_ | refine Ops.min rfl rfl rfl rfl rfl ?_ | refine Ops.eqB rfl rfl rfl rfl rfl rfl ?_ | refine Ops.neB rfl rfl rfl rfl rfl rfl ?_ | (apply Ops.ldB rfl rfl rfl rfl rfl; assumption; rfl)))
  refine Ops.cut (fun ρ w' => ∃ b : Bool, ρ = [(0, .slice Ap ps.length cp), (1, .slice Aw ws.length cw), (2, .int .i64 most), (7, ov), (8, .int .i64 (j + 1)), (25, .bool b)] ∧ w' = w3 ∧ (b = true ↔ j < rounds ps most)) ?_ ?_
  · (repeat' (first | with_reducible refine W.seq ?_ | with_reducible refine Ops.nil ?_ | with_reducible refine W.region ?_ | refine Ops.pu rfl rfl rfl ?_ | refine Ops.ar rfl rfl rfl (by omega) ?_ | refine Ops.yes rfl rfl rfl ?_ | refine Ops.no rfl rfl rfl rfl rfl ?_ | refine Ops.nu rfl rfl rfl rfl ?_ | with_reducible refine W.skip ?_ | with_reducible refine W.endb ?_ | with_reducible refine W.block ?_ | refine W.exit rfl ?_ | refine Ops.len rfl rfl rfl rfl rfl ?_ | refine Ops.flp rfl rfl rfl rfl rfl ?_ | refine Ops.max rfl rfl rfl rfl rfl ?_ | refine Ops.min rfl rfl rfl rfl rfl ?_ | refine Ops.eqB rfl rfl rfl rfl rfl rfl ?_ | refine Ops.neB rfl rfl rfl rfl rfl rfl ?_ | (apply Ops.ldB rfl rfl rfl rfl rfl; assumption; rfl) | refine Ops.gdT rfl rfl rfl rfl (fun _ => ?_) (fun _ => ?_) | refine Ops.gdF rfl rfl rfl rfl (fun _ => ?_) (fun _ => ?_)))
    all_goals refine W.endl ⟨_, ⟨_, rfl, rfl, ?_⟩, (by repeat (first | exact trivial | refine And.intro rfl ?_))⟩
    · rename_i h; simp at h ⊢; omega
    · rename_i h; simp at h ⊢; omega
  · rintro ρ w4 ⟨b, rfl, rfl, hb⟩
    refine W.cond rfl (fun hc => ?_) (fun hc => ?_)
    · have hlt := hb.1 hc
      have hmp := modM_bd (ps.getD j 0) (n := (j : Int) + 1) (by omega)
      have hcl := chM_len ps j
      have hadd : chM ps (j + 1) = ((chM ps j) ++ [[]]).set (modM (ps.getD j 0) (j + 1)).toNat ((chM ps j).getD (modM (ps.getD j 0) (j + 1)).toNat [] ++ [((j : Int) + 1)]) := by
        simp only [chM, addKid, hcl]
        rfl
      have hsum := chM_sum ps j (modM (ps.getD j 0) (j + 1)).toNat
      (repeat (first | with_reducible refine W.seq ?_ | with_reducible refine Ops.nil ?_ | with_reducible refine W.region ?_ | refine Ops.pu rfl rfl rfl ?_ | refine Ops.ar rfl rfl rfl (by omega) ?_ | refine Ops.yes rfl rfl rfl ?_ | refine Ops.no rfl rfl rfl rfl rfl ?_ | refine Ops.nu rfl rfl rfl rfl ?_ | with_reducible refine W.skip ?_ | with_reducible refine W.endb ?_ | with_reducible refine W.block ?_ | refine W.exit rfl ?_ | refine Ops.len rfl rfl rfl rfl rfl ?_ | refine Ops.flp rfl rfl rfl rfl rfl ?_ | refine Ops.max rfl rfl rfl rfl rfl ?_ | refine Ops.min rfl rfl rfl rfl rfl ?_ | refine Ops.eqB rfl rfl rfl rfl rfl rfl ?_ | refine Ops.neB rfl rfl rfl rfl rfl rfl ?_ | (apply Ops.ldB rfl rfl rfl rfl rfl; assumption; rfl)))
      refine Ops.rdS (enc := Value.int .i64) (z := (0 : Int)) rfl rfl rfl rfl rfl rfl rfl rfl rfl rfl rfl (Sl.below hp hL.bel) (by omega) (by omega) (fun p => ?_)
      rw [show ((j : Int) + 1 - 1).toNat = j by omega]
      (repeat (first | with_reducible refine W.seq ?_ | with_reducible refine Ops.nil ?_ | with_reducible refine W.region ?_ | refine Ops.pu rfl rfl rfl ?_ | refine Ops.ar rfl rfl rfl (by omega) ?_ | refine Ops.yes rfl rfl rfl ?_ | refine Ops.no rfl rfl rfl rfl rfl ?_ | refine Ops.nu rfl rfl rfl rfl ?_ | with_reducible refine W.skip ?_ | with_reducible refine W.endb ?_ | with_reducible refine W.block ?_ | refine W.exit rfl ?_ | refine Ops.len rfl rfl rfl rfl rfl ?_ | refine Ops.flp rfl rfl rfl rfl rfl ?_ | refine Ops.max rfl rfl rfl rfl rfl ?_ | refine Ops.min rfl rfl rfl rfl rfl ?_ | refine Ops.eqB rfl rfl rfl rfl rfl rfl ?_ | refine Ops.neB rfl rfl rfl rfl rfl rfl ?_ | (apply Ops.ldB rfl rfl rfl rfl rfl; assumption; rfl)))
      refine Ops.callS rfl rfl rfl rfl rfl (mod_c _ _ _ (by omega) (by omega)) ?_
      generalize modM (ps.getD j 0) (j + 1) = pp at *
      obtain ⟨q, rfl⟩ := Int.eq_ofNat_of_zero_le hmp.1
      (repeat (first | with_reducible refine W.seq ?_ | with_reducible refine Ops.nil ?_ | with_reducible refine W.region ?_ | refine Ops.pu rfl rfl rfl ?_ | refine Ops.ar rfl rfl rfl (by omega) ?_ | refine Ops.yes rfl rfl rfl ?_ | refine Ops.no rfl rfl rfl rfl rfl ?_ | refine Ops.nu rfl rfl rfl rfl ?_ | with_reducible refine W.skip ?_ | with_reducible refine W.endb ?_ | with_reducible refine W.block ?_ | refine W.exit rfl ?_ | refine Ops.len rfl rfl rfl rfl rfl ?_ | refine Ops.flp rfl rfl rfl rfl rfl ?_ | refine Ops.max rfl rfl rfl rfl rfl ?_ | refine Ops.min rfl rfl rfl rfl rfl ?_ | refine Ops.eqB rfl rfl rfl rfl rfl rfl ?_ | refine Ops.neB rfl rfl rfl rfl rfl rfl ?_ | (apply Ops.ldB rfl rfl rfl rfl rfl; assumption; rfl)))
      refine Ops.push rfl rfl rfl rfl rfl rfl rfl rfl rfl rfl rfl rfl (fun _ => rfl) rfl hL.row (by omega) (fun ov2 p2 w5 ho5 k5 hn5 => ?_)
      have hL5 := hL.pushNil ho5 k5 hn5
      have hcl5 : (chM ps j ++ [[]]).length = j + 2 := by simp [hcl]
      have hgq : (chM ps j ++ [[]]).getD q [] = (chM ps j).getD q [] := app_getD (by omega)
      have hrow5 := hL5.row
      rw [hcl5] at hrow5
      obtain ⟨g, cap, cur, rfl, hBd, hszd⟩ := own_blk hrow5 (by omega)
      have hcell := own_cell hrow5 (a := q * 1) (b := 0) (by omega) (by omega)
      (repeat (first | with_reducible refine W.seq ?_ | with_reducible refine Ops.nil ?_ | with_reducible refine W.region ?_ | refine Ops.pu rfl rfl rfl ?_ | refine Ops.ar rfl rfl rfl (by omega) ?_ | refine Ops.yes rfl rfl rfl ?_ | refine Ops.no rfl rfl rfl rfl rfl ?_ | refine Ops.nu rfl rfl rfl rfl ?_ | with_reducible refine W.skip ?_ | with_reducible refine W.endb ?_ | with_reducible refine W.block ?_ | refine W.exit rfl ?_ | refine Ops.len rfl rfl rfl rfl rfl ?_ | refine Ops.flp rfl rfl rfl rfl rfl ?_ | refine Ops.max rfl rfl rfl rfl rfl ?_ | refine Ops.min rfl rfl rfl rfl rfl ?_ | refine Ops.eqB rfl rfl rfl rfl rfl rfl ?_ | refine Ops.neB rfl rfl rfl rfl rfl rfl ?_ | (apply Ops.ldB rfl rfl rfl rfl rfl; assumption; rfl)))
      refine Ops.idx rfl rfl rfl rfl rfl rfl rfl (by omega) (by omega) (Ops.ld rfl rfl rfl rfl rfl (v := (svs ++ [Value.slice none 0 0]).getD q undef) (by simpa [add_lit] using hcell) ?_)
      have hownq := hL5.own q (by omega)
      rw [hgq] at hownq
      generalize hlvq : (svs ++ [Value.slice none 0 0]).getD q undef = lv at *
      (repeat (first | with_reducible refine W.seq ?_ | with_reducible refine Ops.nil ?_ | with_reducible refine W.region ?_ | refine Ops.pu rfl rfl rfl ?_ | refine Ops.ar rfl rfl rfl (by omega) ?_ | refine Ops.yes rfl rfl rfl ?_ | refine Ops.no rfl rfl rfl rfl rfl ?_ | refine Ops.nu rfl rfl rfl rfl ?_ | with_reducible refine W.skip ?_ | with_reducible refine W.endb ?_ | with_reducible refine W.block ?_ | refine W.exit rfl ?_ | refine Ops.len rfl rfl rfl rfl rfl ?_ | refine Ops.flp rfl rfl rfl rfl rfl ?_ | refine Ops.max rfl rfl rfl rfl rfl ?_ | refine Ops.min rfl rfl rfl rfl rfl ?_ | refine Ops.eqB rfl rfl rfl rfl rfl rfl ?_ | refine Ops.neB rfl rfl rfl rfl rfl rfl ?_ | (apply Ops.ldB rfl rfl rfl rfl rfl; assumption; rfl)))
      simp only [Int.toNat_natCast] at hsum
      refine Ops.push rfl rfl rfl rfl rfl rfl rfl rfl rfl rfl rfl rfl (fun _ => rfl) rfl hownq (by omega) (fun lv2 p3 w6 ho6 k6 hn6 => ?_)
      have hB6 : Blk w6 g cur 24 := hBd.kp k6 (fun e => (hL5.sep q (by omega) g (by rw [hlvq]; exact e)).2 rfl)
      have hrow6 := own_kp hrow5 k6 (fun i hi e => (hL5.sep q (by omega) i (by rw [hlvq]; exact e)).2 hi)
      have hone2 : lv2.oneCell' = true := by obtain ⟨A, c, h⟩ := Sl.sl (own_sl (enc := Value.int .i64) (z := (0 : Int)) (xs := (chM ps j).getD q [] ++ [(j : Int) + 1]) (by simpa using ho6)); rw [h]; rfl
      refine Ops.idx rfl rfl rfl rfl rfl rfl rfl (by omega) (by omega) ?_
      rw [add_lit, Nat.zero_add]
      refine Ops.st rfl rfl rfl rfl rfl rfl hone2 hB6 (by simp; omega) (fun w7 hu7 => ?_)
      have hset := own_set hrow6 hB6 hu7
      have hL7 : LL w w7 (.slice (some ⟨g, 0, none⟩) (j + 2) cap) (chM ps (j + 1)) ((svs ++ [Value.slice none 0 0]).set q lv2) := by
        rw [hadd]
        have := hL5.grow (p := q) (x := (j : Int) + 1) (lv' := lv2) (w' := w7) (by omega) (by rw [hgq]; exact ho6) (by rw [hlvq]; exact k6) (by rw [hlvq]; exact hn6) (by rw [hcl5]; simpa using hset) (hu7.kp.mono (fun i _ e => by simp [Value.ownBlock, e]))
        rw [hgq] at this
        exact this
      (repeat (first | with_reducible refine W.seq ?_ | with_reducible refine Ops.nil ?_ | with_reducible refine W.region ?_ | refine Ops.pu rfl rfl rfl ?_ | refine Ops.ar rfl rfl rfl (by omega) ?_ | refine Ops.yes rfl rfl rfl ?_ | refine Ops.no rfl rfl rfl rfl rfl ?_ | refine Ops.nu rfl rfl rfl rfl ?_ | with_reducible refine W.skip ?_ | with_reducible refine W.endb ?_ | with_reducible refine W.block ?_ | refine W.exit rfl ?_ | refine Ops.len rfl rfl rfl rfl rfl ?_ | refine Ops.flp rfl rfl rfl rfl rfl ?_ | refine Ops.max rfl rfl rfl rfl rfl ?_ | refine Ops.min rfl rfl rfl rfl rfl ?_ | refine Ops.eqB rfl rfl rfl rfl rfl rfl ?_ | refine Ops.neB rfl rfl rfl rfl rfl rfl ?_ | (apply Ops.ldB rfl rfl rfl rfl rfl; assumption; rfl)))
      exact W.endl ⟨_, _, ⟨⟨j + 1, _, _, rfl, by omega, rfl, hL7⟩, by omega⟩, (by repeat (first | exact trivial | refine And.intro rfl ?_))⟩
    · have hlt : j = rounds ps most := by have := hb.2; rw [hc] at this; simp at this; omega
      subst hlt
      clear hb hj
      have hcl := chM_len ps (rounds ps most)
      have hrl : rounds ps most ≤ 59 := by omega
      generalize hR : rounds ps most = R at *
      generalize hC : chM ps R = C at *
      have hrow := hL.row
      rw [hcl] at hrow
      obtain ⟨g, cap, rfl, hcell⟩ := own_at hrow (by omega)
      (repeat (first | with_reducible refine W.seq ?_ | with_reducible refine Ops.nil ?_ | with_reducible refine W.region ?_ | refine Ops.pu rfl rfl rfl ?_ | refine Ops.ar rfl rfl rfl (by omega) ?_ | refine Ops.yes rfl rfl rfl ?_ | refine Ops.no rfl rfl rfl rfl rfl ?_ | refine Ops.nu rfl rfl rfl rfl ?_ | with_reducible refine W.skip ?_ | with_reducible refine W.endb ?_ | with_reducible refine W.block ?_ | refine W.exit rfl ?_ | refine Ops.len rfl rfl rfl rfl rfl ?_ | refine Ops.flp rfl rfl rfl rfl rfl ?_ | refine Ops.max rfl rfl rfl rfl rfl ?_ | refine Ops.min rfl rfl rfl rfl rfl ?_ | refine Ops.eqB rfl rfl rfl rfl rfl rfl ?_ | refine Ops.neB rfl rfl rfl rfl rfl rfl ?_ | (apply Ops.ldB rfl rfl rfl rfl rfl; assumption; rfl)))
      refine W.loop (fun m ρ w5 => ∃ (j : Nat) (ov2 : Value) (xs : List Value), m = R + 1 - j ∧ j ≤ R + 1 ∧ ρ = [(1, .slice Aw ws.length cw), (7, .slice (some ⟨g, 0, none⟩) (R + 1) cap), (11, ov2), (12, .int .i64 j)] ∧ Below w4.heap.size w4 w5 ∧
          w5.ownsRow 0 47 2 ov2 j xs ∧ (∀ k, ov2.ownBlock = some k → w4.heap.size ≤ k) ∧ ∀ i, i < j → xs.getD (i * 2) undef = svs.getD i undef ∧ xs.getD (i * 2 + 1) undef = .int .i64 (tameN ps ws C i).2)
        ⟨_, _, ⟨0, _, [], rfl, Nat.zero_le _, rfl, Below.refl _ _, own_nil _ _ _, fun k hk => by simp [Value.ownBlock] at hk, fun i hi => by omega⟩, (by repeat (first | exact trivial | refine And.intro rfl ?_))⟩ ?_
      rintro m ρ w5 ⟨j, ov2, xs, rfl, hj, rfl, hb5, hown2, hge2, hxs⟩
      have hL5 := hL.fresh (Kp.of_below (S := fun _ => False) hb5) (fun _ e => e.elim)
      have hrow5 := hL5.row
      rw [hcl] at hrow5
      (repeat (first | with_reducible refine W.seq ?_ | with_reducible refine Ops.nil ?_ | with_reducible refine W.region ?_ | refine Ops.pu rfl rfl rfl ?_ | refine Ops.ar rfl rfl rfl (by omega) ?_ | refine Ops.yes rfl rfl rfl ?_ | refine Ops.no rfl rfl rfl rfl rfl ?_ | refine Ops.nu rfl rfl rfl rfl ?_ | with_reducible refine W.skip ?_ | with_reducible refine W.endb ?_ | with_reducible refine W.block ?_ | refine W.exit rfl ?_ | refine Ops.len rfl rfl rfl rfl rfl ?_ | refine Ops.flp rfl rfl rfl rfl rfl ?_ | refine Ops.max rfl rfl rfl rfl rfl ?_ | refine Ops.min rfl rfl rfl rfl rfl ?_ | refine Ops.eqB rfl rfl rfl rfl rfl rfl ?_ | refine Ops.neB rfl rfl rfl rfl rfl rfl ?_ | (apply Ops.ldB rfl rfl rfl rfl rfl; assumption; rfl)))
      refine W.cond rfl (fun hc => ?_) (fun hc => ?_)
      · have hlt : j < R + 1 := by simp at hc; omega
        have hxl := hown2.1
        have hci := own_cell hrow5 (a := j * 1) (b := 0) (by omega) (by omega)
        have hownj := hL5.own j (by omega)
        obtain ⟨Aj, cj, hsj⟩ := Sl.sl (own_sl (enc := Value.int .i64) (z := (0 : Int)) hownj)
        have hone : (svs.getD j undef).oneCell' = true := by rw [hsj]; rfl
        have hci' : w5.cell? ⟨g, j, none⟩ = some (.slice Aj (C.getD j []).length cj) := by rw [← hsj]; simpa [add_lit] using hci
        (repeat (first | with_reducible refine W.seq ?_ | with_reducible refine Ops.nil ?_ | with_reducible refine W.region ?_ | refine Ops.pu rfl rfl rfl ?_ | refine Ops.ar rfl rfl rfl (by omega) ?_ | refine Ops.yes rfl rfl rfl ?_ | refine Ops.no rfl rfl rfl rfl rfl ?_ | refine Ops.nu rfl rfl rfl rfl ?_ | with_reducible refine W.skip ?_ | with_reducible refine W.endb ?_ | with_reducible refine W.block ?_ | refine W.exit rfl ?_ | refine Ops.len rfl rfl rfl rfl rfl ?_ | refine Ops.flp rfl rfl rfl rfl rfl ?_ | refine Ops.max rfl rfl rfl rfl rfl ?_ | refine Ops.min rfl rfl rfl rfl rfl ?_ | refine Ops.eqB rfl rfl rfl rfl rfl rfl ?_ | refine Ops.neB rfl rfl rfl rfl rfl rfl ?_ | (apply Ops.ldB rfl rfl rfl rfl rfl; assumption; rfl)))
        refine Ops.idx rfl rfl rfl rfl rfl rfl rfl (by omega) (by omega) (Ops.ld rfl rfl rfl rfl rfl (v := .slice Aj (C.getD j []).length cj) (by simpa [add_lit] using hci') ?_)
        refine Ops.bldG (cs := #[.slice Aj (C.getD j []).length cj, .int .i64 0]) rfl rfl rfl rfl rfl rfl (by kernel_rfl) ?_
        refine Ops.alloc rfl rfl rfl rfl (fun w6 b hM => ?_)
        refine Ops.st2 rfl rfl rfl rfl rfl rfl rfl rfl hM.at_ (fun w7 hu7 => ?_)
        have hbe := hM.r_eq
        have k7 : Kp (fun i => w5.heap.size ≤ i) w5 w7 := (hM.kp.trans hu7.kp).mono (fun i _ e => by rcases e with e | e; exact e.elim; omega)
        have hci7 : w7.cell? ⟨g, j, none⟩ = some (.slice Aj (C.getD j []).length cj) := cell_kp k7 hci' (fun e => by
          have e2 : w5.heap.size ≤ g := e
          have := (hL5.row.lt g rfl).2
          omega)
        have hB7 := hu7.blk
        have hw7 := Sl.below hw (hL5.bel.trans ((Below.at_ (Below.refl _ _) k7 (fun i hi => hi)).mono hL5.bel.size))
        have htn : (tameN ps ws C j).2 = if (C.getD j []).length = 0 ∧ j < ws.length then modM (ws.getD j 0) 201 - 100 else 0 := rfl
        have hmb := modM_bd (ws.getD j 0) (n := 201) (by omega)
        (repeat (first | with_reducible refine W.seq ?_ | with_reducible refine Ops.nil ?_ | with_reducible refine W.region ?_ | refine Ops.pu rfl rfl rfl ?_ | refine Ops.ar rfl rfl rfl (by omega) ?_ | refine Ops.yes rfl rfl rfl ?_ | refine Ops.no rfl rfl rfl rfl rfl ?_ | refine Ops.nu rfl rfl rfl rfl ?_ | with_reducible refine W.skip ?_ | with_reducible refine W.endb ?_ | with_reducible refine W.block ?_ | refine W.exit rfl ?_ | refine Ops.len rfl rfl rfl rfl rfl ?_ | refine Ops.flp rfl rfl rfl rfl rfl ?_ | refine Ops.max rfl rfl rfl rfl rfl ?_ | refine Ops.min rfl rfl rfl rfl rfl ?_ | refine Ops.eqB rfl rfl rfl rfl rfl rfl ?_ | refine Ops.neB rfl rfl rfl rfl rfl rfl ?_ | (apply Ops.ldB rfl rfl rfl rfl rfl; assumption; rfl)))
        refine Ops.idx rfl rfl rfl rfl rfl rfl rfl (by omega) (by omega) (Ops.ld rfl rfl rfl rfl rfl (v := .slice Aj (C.getD j []).length cj) (by simpa [add_lit] using hci7) ?_)
        refine Ops.cut (fun ρ w' => ∃ b' : Bool, ρ = [(1, .slice Aw ws.length cw), (7, .slice (some ⟨g, 0, none⟩) (R + 1) cap), (11, ov2), (12, .int .i64 j), (13, .pointer (some ⟨b, 0, none⟩)), (71, .bool b')] ∧ w' = w7 ∧ (b' = true ↔ (C.getD j []).length = 0 ∧ j < ws.length)) ?_ ?_
        · (repeat' (first | with_reducible refine W.seq ?_ | with_reducible refine Ops.nil ?_ | with_reducible refine W.region ?_ | refine Ops.pu rfl rfl rfl ?_ | refine Ops.ar rfl rfl rfl (by omega) ?_ | refine Ops.yes rfl rfl rfl ?_ | refine Ops.no rfl rfl rfl rfl rfl ?_ | refine Ops.nu rfl rfl rfl rfl ?_ | with_reducible refine W.skip ?_ | with_reducible refine W.endb ?_ | with_reducible refine W.block ?_ | refine W.exit rfl ?_ | refine Ops.len rfl rfl rfl rfl rfl ?_ | refine Ops.flp rfl rfl rfl rfl rfl ?_ | refine Ops.max rfl rfl rfl rfl rfl ?_ | refine Ops.min rfl rfl rfl rfl rfl ?_ | refine Ops.eqB rfl rfl rfl rfl rfl rfl ?_ | refine Ops.neB rfl rfl rfl rfl rfl rfl ?_ | (apply Ops.ldB rfl rfl rfl rfl rfl; assumption; rfl) | refine Ops.gdT rfl rfl rfl rfl (fun _ => ?_) (fun _ => ?_) | refine Ops.gdF rfl rfl rfl rfl (fun _ => ?_) (fun _ => ?_)))
          all_goals refine W.endl ⟨_, ⟨_, rfl, rfl, ?_⟩, (by repeat (first | exact trivial | refine And.intro rfl ?_))⟩
          · rename_i h
            have h' : (C.getD j []).length = 0 := by simpa using h
            simp only [h', true_and, decide_eq_true_eq]
            omega
          · rename_i h
            have h' : ¬ (C.getD j []).length = 0 := by simpa using h
            exact ⟨fun h => by simp at h, fun h => absurd h.1 h'⟩
        · rintro ρ w8 ⟨b', rfl, rfl, hb'⟩
          refine W.cut (fun ρ w' => ∃ z, ρ = [(1, .slice Aw ws.length cw), (7, .slice (some ⟨g, 0, none⟩) (R + 1) cap), (11, ov2), (12, .int .i64 j), (13, .pointer (some ⟨b, 0, none⟩))] ∧ Kp (fun i => w5.heap.size ≤ i) w5 w' ∧ z = (tameN ps ws C j).2 ∧ Blk w' b #[.slice Aj (C.getD j []).length cj, .int .i64 z] 47) ?_ ?_
          · refine W.cond rfl (fun hc => ?_) (fun hc => ?_)
            · have h2 := hb'.1 hc
              (repeat (first | with_reducible refine W.seq ?_ | with_reducible refine Ops.nil ?_ | with_reducible refine W.region ?_ | refine Ops.pu rfl rfl rfl ?_ | refine Ops.ar rfl rfl rfl (by omega) ?_ | refine Ops.yes rfl rfl rfl ?_ | refine Ops.no rfl rfl rfl rfl rfl ?_ | refine Ops.nu rfl rfl rfl rfl ?_ | with_reducible refine W.skip ?_ | with_reducible refine W.endb ?_ | with_reducible refine W.block ?_ | refine W.exit rfl ?_ | refine Ops.len rfl rfl rfl rfl rfl ?_ | refine Ops.flp rfl rfl rfl rfl rfl ?_ | refine Ops.max rfl rfl rfl rfl rfl ?_ | refine Ops.min rfl rfl rfl rfl rfl ?_ | refine Ops.eqB rfl rfl rfl rfl rfl rfl ?_ | refine Ops.neB rfl rfl rfl rfl rfl rfl ?_ | (apply Ops.ldB rfl rfl rfl rfl rfl; assumption; rfl)))
              refine Ops.rdS (enc := Value.int .i64) (z := (0 : Int)) rfl rfl rfl rfl rfl rfl rfl rfl rfl rfl rfl hw7 (by omega) (by omega) (fun p => ?_)
              simp only [Int.toNat_natCast]
              (repeat (first | with_reducible refine W.seq ?_ | with_reducible refine Ops.nil ?_ | with_reducible refine W.region ?_ | refine Ops.pu rfl rfl rfl ?_ | refine Ops.ar rfl rfl rfl (by omega) ?_ | refine Ops.yes rfl rfl rfl ?_ | refine Ops.no rfl rfl rfl rfl rfl ?_ | refine Ops.nu rfl rfl rfl rfl ?_ | with_reducible refine W.skip ?_ | with_reducible refine W.endb ?_ | with_reducible refine W.block ?_ | refine W.exit rfl ?_ | refine Ops.len rfl rfl rfl rfl rfl ?_ | refine Ops.flp rfl rfl rfl rfl rfl ?_ | refine Ops.max rfl rfl rfl rfl rfl ?_ | refine Ops.min rfl rfl rfl rfl rfl ?_ | refine Ops.eqB rfl rfl rfl rfl rfl rfl ?_ | refine Ops.neB rfl rfl rfl rfl rfl rfl ?_ | (apply Ops.ldB rfl rfl rfl rfl rfl; assumption; rfl)))
              refine Ops.callS rfl rfl rfl rfl rfl (mod_c _ _ _ (by decide) (by decide)) ?_
              (repeat (first | with_reducible refine W.seq ?_ | with_reducible refine Ops.nil ?_ | with_reducible refine W.region ?_ | refine Ops.pu rfl rfl rfl ?_ | refine Ops.ar rfl rfl rfl (by omega) ?_ | refine Ops.yes rfl rfl rfl ?_ | refine Ops.no rfl rfl rfl rfl rfl ?_ | refine Ops.nu rfl rfl rfl rfl ?_ | with_reducible refine W.skip ?_ | with_reducible refine W.endb ?_ | with_reducible refine W.block ?_ | refine W.exit rfl ?_ | refine Ops.len rfl rfl rfl rfl rfl ?_ | refine Ops.flp rfl rfl rfl rfl rfl ?_ | refine Ops.max rfl rfl rfl rfl rfl ?_ | refine Ops.min rfl rfl rfl rfl rfl ?_ | refine Ops.eqB rfl rfl rfl rfl rfl rfl ?_ | refine Ops.neB rfl rfl rfl rfl rfl rfl ?_ | (apply Ops.ldB rfl rfl rfl rfl rfl; assumption; rfl)))
              refine Ops.st rfl rfl rfl rfl rfl rfl rfl hB7 (by simp) (fun w9 hu9 => ?_)
              (repeat (first | with_reducible refine W.seq ?_ | with_reducible refine Ops.nil ?_ | with_reducible refine W.region ?_ | refine Ops.pu rfl rfl rfl ?_ | refine Ops.ar rfl rfl rfl (by omega) ?_ | refine Ops.yes rfl rfl rfl ?_ | refine Ops.no rfl rfl rfl rfl rfl ?_ | refine Ops.nu rfl rfl rfl rfl ?_ | with_reducible refine W.skip ?_ | with_reducible refine W.endb ?_ | with_reducible refine W.block ?_ | refine W.exit rfl ?_ | refine Ops.len rfl rfl rfl rfl rfl ?_ | refine Ops.flp rfl rfl rfl rfl rfl ?_ | refine Ops.max rfl rfl rfl rfl rfl ?_ | refine Ops.min rfl rfl rfl rfl rfl ?_ | refine Ops.eqB rfl rfl rfl rfl rfl rfl ?_ | refine Ops.neB rfl rfl rfl rfl rfl rfl ?_ | (apply Ops.ldB rfl rfl rfl rfl rfl; assumption; rfl)))
              exact W.endl ⟨_, ⟨_, rfl, (k7.trans hu9.kp).mono (fun i _ e => by rcases e with e | e; exact e; omega), by rw [htn, if_pos h2], hu9.blk⟩, (by repeat (first | exact trivial | refine And.intro rfl ?_))⟩
            · (repeat (first | with_reducible refine W.seq ?_ | with_reducible refine Ops.nil ?_ | with_reducible refine W.region ?_ | refine Ops.pu rfl rfl rfl ?_ | refine Ops.ar rfl rfl rfl (by omega) ?_ | refine Ops.yes rfl rfl rfl ?_ | refine Ops.no rfl rfl rfl rfl rfl ?_ | refine Ops.nu rfl rfl rfl rfl ?_ | with_reducible refine W.skip ?_ | with_reducible refine W.endb ?_ | with_reducible refine W.block ?_ | refine W.exit rfl ?_ | refine Ops.len rfl rfl rfl rfl rfl ?_ | refine Ops.flp rfl rfl rfl rfl rfl ?_ | refine Ops.max rfl rfl rfl rfl rfl ?_ | refine Ops.min rfl rfl rfl rfl rfl ?_ | refine Ops.eqB rfl rfl rfl rfl rfl rfl ?_ | refine Ops.neB rfl rfl rfl rfl rfl rfl ?_ | (apply Ops.ldB rfl rfl rfl rfl rfl; assumption; rfl)))
              exact W.endl ⟨_, ⟨_, rfl, k7, by rw [htn, if_neg (fun h => by have := hb'.2 h; rw [hc] at this; simp at this)], hB7⟩, (by repeat (first | exact trivial | refine And.intro rfl ?_))⟩
          · rintro ρ w9 ⟨z, rfl, k9, hz, hB9⟩
            (repeat (first | with_reducible refine W.seq ?_ | with_reducible refine Ops.nil ?_ | with_reducible refine W.region ?_ | refine Ops.pu rfl rfl rfl ?_ | refine Ops.ar rfl rfl rfl (by omega) ?_ | refine Ops.yes rfl rfl rfl ?_ | refine Ops.no rfl rfl rfl rfl rfl ?_ | refine Ops.nu rfl rfl rfl rfl ?_ | with_reducible refine W.skip ?_ | with_reducible refine W.endb ?_ | with_reducible refine W.block ?_ | refine W.exit rfl ?_ | refine Ops.len rfl rfl rfl rfl rfl ?_ | refine Ops.flp rfl rfl rfl rfl rfl ?_ | refine Ops.max rfl rfl rfl rfl rfl ?_ | refine Ops.min rfl rfl rfl rfl rfl ?_ | refine Ops.eqB rfl rfl rfl rfl rfl rfl ?_ | refine Ops.neB rfl rfl rfl rfl rfl rfl ?_ | (apply Ops.ldB rfl rfl rfl rfl rfl; assumption; rfl)))
            refine Ops.ld2 rfl rfl rfl rfl rfl rfl (hB9.cell rfl) (by rw [add_lit]; exact hB9.cell rfl) ?_
            refine Ops.push2 rfl rfl rfl rfl rfl rfl rfl rfl rfl rfl rfl (fun _ => rfl) rfl rfl (own_kp hown2 k9 (fun i hi e => by have := (hown2.lt i hi).2; omega)) (by omega) (fun lv' p w10 ho10 k10 hn10 => ?_)
            have hb9 : Below w4.heap.size w4 w9 := Below.at_ hb5 k9 (fun i hi => by have := hb5.size; omega)
            (repeat (first | with_reducible refine W.seq ?_ | with_reducible refine Ops.nil ?_ | with_reducible refine W.region ?_ | refine Ops.pu rfl rfl rfl ?_ | refine Ops.ar rfl rfl rfl (by omega) ?_ | refine Ops.yes rfl rfl rfl ?_ | refine Ops.no rfl rfl rfl rfl rfl ?_ | refine Ops.nu rfl rfl rfl rfl ?_ | with_reducible refine W.skip ?_ | with_reducible refine W.endb ?_ | with_reducible refine W.block ?_ | refine W.exit rfl ?_ | refine Ops.len rfl rfl rfl rfl rfl ?_ | refine Ops.flp rfl rfl rfl rfl rfl ?_ | refine Ops.max rfl rfl rfl rfl rfl ?_ | refine Ops.min rfl rfl rfl rfl rfl ?_ | refine Ops.eqB rfl rfl rfl rfl rfl rfl ?_ | refine Ops.neB rfl rfl rfl rfl rfl rfl ?_ | (apply Ops.ldB rfl rfl rfl rfl rfl; assumption; rfl)))
            refine W.endl ⟨_, _, ⟨⟨j + 1, _, _, rfl, by omega, rfl, Below.at_ hb9 k10 (fun i hi => hge2 i hi), ho10, fun k hk => ?_, fun i hi => ?_⟩, by omega⟩, (by repeat (first | exact trivial | refine And.intro rfl ?_))⟩
            · rcases hn10 k hk with e | e
              · exact hge2 k e
              · have := hb9.size; omega
            · by_cases e : i = j
              · subst e
                refine ⟨?_, ?_⟩
                · rw [List.getD_eq_getElem?_getD, List.getElem?_append_right (by omega), hsj]; simp [hxl]
                · rw [List.getD_eq_getElem?_getD, List.getElem?_append_right (by omega), ← hz]; simp [hxl]
              · have := hxs i (by omega)
                rw [gapp (by omega), gapp (by omega)]
                exact this
      · have hlt : j = R + 1 := by simp at hc; omega
        subst hlt
        (repeat (first | with_reducible refine W.seq ?_ | with_reducible refine Ops.nil ?_ | with_reducible refine W.region ?_ | refine Ops.pu rfl rfl rfl ?_ | refine Ops.ar rfl rfl rfl (by omega) ?_ | refine Ops.yes rfl rfl rfl ?_ | refine Ops.no rfl rfl rfl rfl rfl ?_ | refine Ops.nu rfl rfl rfl rfl ?_ | with_reducible refine W.skip ?_ | with_reducible refine W.endb ?_ | with_reducible refine W.block ?_ | refine W.exit rfl ?_ | refine Ops.len rfl rfl rfl rfl rfl ?_ | refine Ops.flp rfl rfl rfl rfl rfl ?_ | refine Ops.max rfl rfl rfl rfl rfl ?_ | refine Ops.min rfl rfl rfl rfl rfl ?_ | refine Ops.eqB rfl rfl rfl rfl rfl rfl ?_ | refine Ops.neB rfl rfl rfl rfl rfl rfl ?_ | (apply Ops.ldB rfl rfl rfl rfl rfl; assumption; rfl)))
        obtain ⟨g2, cap2, rfl, hc2⟩ := own_at hown2 (by omega)
        have hlen : (tameM ps ws most).length = R + 1 := by rw [tameM_len, hR]
        have hat : ∀ i, i < R + 1 → (tameM ps ws most).getD i ([], 0) = tameN ps ws C i := fun i hi => by rw [tameM_at (by omega), hR, hC]
        refine W.fret rfl ⟨⟨some ⟨g2, 0, none⟩, cap2, svs, by rw [hlen]; rfl, fun _ => ⟨_, rfl, fun i hi => ?_⟩, fun i hi => ?_⟩, hL5.bel⟩
        · rw [hlen] at hi
          have := hxs i hi
          rw [add_lit, add_lit, Nat.zero_add, hat i hi]
          exact ⟨by rw [hc2 _ (by omega), this.1], by rw [hc2 _ (by omega), this.2]⟩
        · rw [hlen] at hi
          rw [hat i hi]
          exact own_sl (z := (0 : Int)) (hL5.own i (by omega))
end Go.Proofs.Ytdiljpnfochndaa
