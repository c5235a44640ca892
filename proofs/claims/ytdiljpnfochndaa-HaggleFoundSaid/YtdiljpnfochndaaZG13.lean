/- A part of the walk: what this seat's statements share. -/
import Derived.Test.YtdiljpnfochndaaZG3
import Derived.Test.YtdiljpnfochndaaZG12
import Derived.Test.YtdiljpnfochndaaZG7
import Derived.Test.YtdiljpnfochndaaZG2
import Derived.Test.YtdiljpnfochndaaZG6
import Derived.Test.YtdiljpnfochndaaZG11
import Derived.ChangeSlices
import Derived.ChangeArms
set_option linter.unusedVariables false
set_option linter.unusedSimpArgs false
set_option linter.unusedSectionVars false
namespace Go.Proofs.Ytdiljpnfochndaa
open Go Go.RowKit Go.Proofs.Ytdiljpnfochndaa.VW
open Go.Proofs.Ytdiljpnfochndaa.HP (Nd kid wor leafB rd modM modM_bd chM chM_len rounds tameM tameN addKid tameM_len tameM_at)
attribute [local irreducible] W Ops
theorem chM_sum (ps : List Int) : ∀ i j, ((chM ps i).getD j []).length ≤ i
  | 0, j => by
    cases j with
    | zero => simp [chM]
    | succ j => simp [chM]
  | i + 1, j => by
    have hp : (modM (ps.getD i 0) (i + 1)).toNat < (chM ps i).length := by
      have := modM_bd (ps.getD i 0) (n := (i : Int) + 1) (by omega)
      rw [chM_len]; omega
    have hl := chM_len ps i
    simp only [chM]
    by_cases e : j = (modM (ps.getD i 0) (i + 1)).toNat
    · subst e
      rw [Go.Proofs.Ytdiljpnfochndaa.HP.addKid_p hp, List.length_append, List.length_singleton]
      have := chM_sum ps i (modM (ps.getD i 0) (i + 1)).toNat
      omega
    · by_cases hj : j < (chM ps i).length
      · rw [Go.Proofs.Ytdiljpnfochndaa.HP.addKid_ne e hj]
        have := chM_sum ps i j
        omega
      · by_cases hj2 : j = (chM ps i).length
        · subst hj2
          rw [Go.Proofs.Ytdiljpnfochndaa.HP.addKid_new hp]
          simp
        · rw [List.getD_eq_getElem?_getD, List.getElem?_eq_none (by rw [Go.Proofs.Ytdiljpnfochndaa.HP.addKid_len]; omega)]
          simp
theorem gapp {α : Type} {xs ys : List α} {i : Nat} {d : α} (h : i < xs.length) : (xs ++ ys).getD i d = xs.getD i d := by rw [List.getD_eq_getElem?_getD, List.getElem?_append_left h, ← List.getD_eq_getElem?_getD]
set_option maxRecDepth 100000 in
theorem tame_c {w : World} {pv wv : Value} {ps ws : List Int} {most : Nat} (hp : SlI w pv ps) (hw : SlI w wv ws) (h1 : 1 ≤ most) (hm : most ≤ 60) :
    Calls Try.prog 33 #[pv, wv, .int .i64 most] w (Ret fun r w' => TreeM w' r (tameM ps ws most) ∧ Below w.heap.size w w') := by
  have hpl := Sl.len hp
  have hwl := Sl.len hw
  obtain ⟨Ap, cp, rfl⟩ := Sl.sl hp
  obtain ⟨Aw, cw, rfl⟩ := Sl.sl hw
  refine calls_W (vs := [_, _, _]) Try.func33 rfl (by kernel_rfl) rfl ?_
  (repeat (first | with_reducible refine W.seq ?_ | with_reducible refine Ops.nil ?_ | with_reducible refine W.region ?_ | refine z_p (kk := ?_) | refine z_a (kk := ?_) | refine z_y (kk := ?_) | refine z_n (kk := ?_) | refine z_u (kk := ?_) | with_reducible refine W.skip ?_ | with_reducible refine W.endb ?_ | with_reducible refine W.block ?_ | refine W.exit rfl ?_ | refine z_l (kk := ?_) | refine z_f (kk := ?_) | refine z_M (kk := ?_) | refine z_m (kk := ?_) | refine z_e (kk := ?_) | refine z_E (kk := ?_) | refine z_d (kk := ?_)))
  refine Ops.push rfl rfl rfl rfl rfl rfl rfl rfl rfl rfl rfl rfl (fun _ => rfl) rfl (own_nil w 24 1) (by omega) (fun ov p w1 ho1 k1 hn1 => ?_)
  have hL1 : LL w w1 ov (chM ps 0) [.slice none 0 0] := by
    have h0 : LL w w (.slice none 0 0) [] [] := ⟨Below.refl _ _, fun k hk => by simp [Value.ownBlock] at hk, own_nil _ _ _, fun j hj => by simp at hj, fun j hj => by simp at hj, fun j j' hj => by simp at hj⟩
    exact h0.pushNil ho1 k1 hn1
  (repeat (first | with_reducible refine W.seq ?_ | with_reducible refine Ops.nil ?_ | with_reducible refine W.region ?_ | refine z_p (kk := ?_) | refine z_a (kk := ?_) | refine z_y (kk := ?_) | refine z_n (kk := ?_) | refine z_u (kk := ?_) | with_reducible refine W.skip ?_ | with_reducible refine W.endb ?_ | with_reducible refine W.block ?_ | refine W.exit rfl ?_ | refine z_l (kk := ?_) | refine z_f (kk := ?_) | refine z_M (kk := ?_) | refine z_m (kk := ?_) | refine z_e (kk := ?_) | refine z_E (kk := ?_) | refine z_d (kk := ?_)))
  refine W.loop (fun m ρ w3 => ∃ (j : Nat) (ov : Value) (svs : List Value), m = rounds ps most - j ∧ j ≤ rounds ps most ∧ ρ = [(0, .slice Ap ps.length cp), (1, .slice Aw ws.length cw), (2, .int .i64 most), (7, ov), (8, .int .i64 (j + 1))] ∧ LL w w3 ov (chM ps j) svs)
    ⟨_, _, ⟨0, _, _, rfl, Nat.zero_le _, rfl, hL1⟩, (by repeat (first | exact trivial | refine And.intro rfl ?_))⟩ ?_
  clear hL1 hn1 k1 ho1
  rintro m ρ w3 ⟨j, ov, svs, rfl, hj, rfl, hL⟩
  have hrd : rounds ps most = min (most - 1) ps.length := rfl
  (repeat (first | with_reducible refine W.seq ?_ | with_reducible refine Ops.nil ?_ | with_reducible refine W.region ?_ | refine z_p (kk := ?_) | refine z_a (kk := ?_) | refine z_y (kk := ?_) | refine z_n (kk := ?_) | refine z_u (kk := ?_) | with_reducible refine W.skip ?_ | with_reducible refine W.endb ?_ | with_reducible refine W.block ?_ | refine W.exit rfl ?_ | refine z_l (kk := ?_) | refine z_f (kk := ?_) | refine z_M (kk := ?_) | refine z_m (kk := ?_) | refine z_e (kk := ?_) | refine z_E (kk := ?_) | refine z_d (kk := ?_)))
  refine Ops.cut (fun ρ w' => ∃ b : Bool, ρ = [(0, .slice Ap ps.length cp), (1, .slice Aw ws.length cw), (2, .int .i64 most), (7, ov), (8, .int .i64 (j + 1)), (25, .bool b)] ∧ w' = w3 ∧ (b = true ↔ j < rounds ps most)) ?_ ?_
  · (repeat' (first | with_reducible refine W.seq ?_ | with_reducible refine Ops.nil ?_ | with_reducible refine W.region ?_ | refine z_p (kk := ?_) | refine z_a (kk := ?_) | refine z_y (kk := ?_) | refine z_n (kk := ?_) | refine z_u (kk := ?_) | with_reducible refine W.skip ?_ | with_reducible refine W.endb ?_ | with_reducible refine W.block ?_ | refine W.exit rfl ?_ | refine z_l (kk := ?_) | refine z_f (kk := ?_) | refine z_M (kk := ?_) | refine z_m (kk := ?_) | refine z_e (kk := ?_) | refine z_E (kk := ?_) | refine z_d (kk := ?_) | refine Ops.gdT rfl rfl rfl rfl (fun _ => ?_) (fun _ => ?_) | refine Ops.gdF rfl rfl rfl rfl (fun _ => ?_) (fun _ => ?_)))
    all_goals refine W.endl ⟨_, ⟨_, rfl, rfl, ?_⟩, (by repeat (first | exact trivial | refine And.intro rfl ?_))⟩
    · rename_i h; simp at h ⊢; omega
    · rename_i h; simp at h ⊢; omega
  · rintro ρ w4 ⟨b, rfl, rfl, hb⟩
    refine W.cond rfl (fun hc => ?_) (fun hc => ?_)
    · have hlt := hb.1 hc
      have hmp := modM_bd (ps.getD j 0) (n := (j : Int) + 1) (by omega)
      have hcl := chM_len ps j
      have hadd : chM ps (j + 1) = ((chM ps j) ++ [[]]).set (modM (ps.getD j 0) (j + 1)).toNat ((chM ps j).getD (modM (ps.getD j 0) (j + 1)).toNat [] ++ [((j : Int) + 1)]) := by
        simp only [chM, addKid, hcl]
        rfl
      have hsum := chM_sum ps j (modM (ps.getD j 0) (j + 1)).toNat
      (repeat (first | with_reducible refine W.seq ?_ | with_reducible refine Ops.nil ?_ | with_reducible refine W.region ?_ | refine z_p (kk := ?_) | refine z_a (kk := ?_) | refine z_y (kk := ?_) | refine z_n (kk := ?_) | refine z_u (kk := ?_) | with_reducible refine W.skip ?_ | with_reducible refine W.endb ?_ | with_reducible refine W.block ?_ | refine W.exit rfl ?_ | refine z_l (kk := ?_) | refine z_f (kk := ?_) | refine z_M (kk := ?_) | refine z_m (kk := ?_) | refine z_e (kk := ?_) | refine z_E (kk := ?_) | refine z_d (kk := ?_)))
      refine Ops.rdS (enc := Value.int .i64) (z := (0 : Int)) rfl rfl rfl rfl rfl rfl rfl rfl rfl rfl rfl (Sl.below hp hL.bel) (by omega) (by omega) (fun p => ?_)
      rw [show ((j : Int) + 1 - 1).toNat = j by omega]
      (repeat (first | with_reducible refine W.seq ?_ | with_reducible refine Ops.nil ?_ | with_reducible refine W.region ?_ | refine z_p (kk := ?_) | refine z_a (kk := ?_) | refine z_y (kk := ?_) | refine z_n (kk := ?_) | refine z_u (kk := ?_) | with_reducible refine W.skip ?_ | with_reducible refine W.endb ?_ | with_reducible refine W.block ?_ | refine W.exit rfl ?_ | refine z_l (kk := ?_) | refine z_f (kk := ?_) | refine z_M (kk := ?_) | refine z_m (kk := ?_) | refine z_e (kk := ?_) | refine z_E (kk := ?_) | refine z_d (kk := ?_)))
      refine Ops.callS rfl rfl rfl rfl rfl (mod_c _ _ _ (by omega) (by omega)) ?_
      generalize modM (ps.getD j 0) (j + 1) = pp at *
      obtain ⟨q, rfl⟩ := Int.eq_ofNat_of_zero_le hmp.1
      (repeat (first | with_reducible refine W.seq ?_ | with_reducible refine Ops.nil ?_ | with_reducible refine W.region ?_ | refine z_p (kk := ?_) | refine z_a (kk := ?_) | refine z_y (kk := ?_) | refine z_n (kk := ?_) | refine z_u (kk := ?_) | with_reducible refine W.skip ?_ | with_reducible refine W.endb ?_ | with_reducible refine W.block ?_ | refine W.exit rfl ?_ | refine z_l (kk := ?_) | refine z_f (kk := ?_) | refine z_M (kk := ?_) | refine z_m (kk := ?_) | refine z_e (kk := ?_) | refine z_E (kk := ?_) | refine z_d (kk := ?_)))
      refine Ops.push rfl rfl rfl rfl rfl rfl rfl rfl rfl rfl rfl rfl (fun _ => rfl) rfl hL.row (by omega) (fun ov2 p2 w5 ho5 k5 hn5 => ?_)
      have hL5 := hL.pushNil ho5 k5 hn5
      have hcl5 : (chM ps j ++ [[]]).length = j + 2 := by simp [hcl]
      have hgq : (chM ps j ++ [[]]).getD q [] = (chM ps j).getD q [] := app_getD (by omega)
      have hrow5 := hL5.row
      rw [hcl5] at hrow5
      obtain ⟨g, cap, cur, rfl, hBd, hszd⟩ := own_blk hrow5 (by omega)
      have hcell := own_cell hrow5 (a := q * 1) (b := 0) (by omega) (by omega)
      (repeat (first | with_reducible refine W.seq ?_ | with_reducible refine Ops.nil ?_ | with_reducible refine W.region ?_ | refine z_p (kk := ?_) | refine z_a (kk := ?_) | refine z_y (kk := ?_) | refine z_n (kk := ?_) | refine z_u (kk := ?_) | with_reducible refine W.skip ?_ | with_reducible refine W.endb ?_ | with_reducible refine W.block ?_ | refine W.exit rfl ?_ | refine z_l (kk := ?_) | refine z_f (kk := ?_) | refine z_M (kk := ?_) | refine z_m (kk := ?_) | refine z_e (kk := ?_) | refine z_E (kk := ?_) | refine z_d (kk := ?_)))
      refine Ops.idx rfl rfl rfl rfl rfl rfl rfl (by omega) (by omega) (Ops.ld rfl rfl rfl rfl rfl (v := (svs ++ [Value.slice none 0 0]).getD q undef) (by simpa [add_lit] using hcell) ?_)
      have hownq := hL5.own q (by omega)
      rw [hgq] at hownq
      generalize hlvq : (svs ++ [Value.slice none 0 0]).getD q undef = lv at *
      (repeat (first | with_reducible refine W.seq ?_ | with_reducible refine Ops.nil ?_ | with_reducible refine W.region ?_ | refine z_p (kk := ?_) | refine z_a (kk := ?_) | refine z_y (kk := ?_) | refine z_n (kk := ?_) | refine z_u (kk := ?_) | with_reducible refine W.skip ?_ | with_reducible refine W.endb ?_ | with_reducible refine W.block ?_ | refine W.exit rfl ?_ | refine z_l (kk := ?_) | refine z_f (kk := ?_) | refine z_M (kk := ?_) | refine z_m (kk := ?_) | refine z_e (kk := ?_) | refine z_E (kk := ?_) | refine z_d (kk := ?_)))
      simp only [Int.toNat_natCast] at hsum
      refine Ops.push rfl rfl rfl rfl rfl rfl rfl rfl rfl rfl rfl rfl (fun _ => rfl) rfl hownq (by omega) (fun lv2 p3 w6 ho6 k6 hn6 => ?_)
      have hB6 : Blk w6 g cur 24 := hBd.kp k6 (fun e => (hL5.sep q (by omega) g (by rw [hlvq]; exact e)).2 rfl)
      have hrow6 := own_kp hrow5 k6 (fun i hi e => (hL5.sep q (by omega) i (by rw [hlvq]; exact e)).2 hi)
      have hone2 : lv2.oneCell' = true := by obtain ⟨A, c, h⟩ := Sl.sl (own_sl (enc := Value.int .i64) (z := (0 : Int)) (xs := (chM ps j).getD q [] ++ [(j : Int) + 1]) (by simpa using ho6)); rw [h]; rfl
      refine Ops.idx rfl rfl rfl rfl rfl rfl rfl (by omega) (by omega) ?_
      rw [add_lit, Nat.zero_add]
      refine Ops.st rfl rfl rfl rfl rfl rfl hone2 hB6 (by simp; omega) (fun w7 hu7 => ?_)
      have hset := own_set hrow6 hB6 hu7
      have hL7 : LL w w7 (.slice (some ⟨g, 0, none⟩) (j + 2) cap) (chM ps (j + 1)) ((svs ++ [Value.slice none 0 0]).set q lv2) := by
        rw [hadd]
        have := hL5.grow (p := q) (x := (j : Int) + 1) (lv' := lv2) (w' := w7) (by omega) (by rw [hgq]; exact ho6) (by rw [hlvq]; exact k6) (by rw [hlvq]; exact hn6) (by rw [hcl5]; simpa using hset) (hu7.kp.mono (fun i _ e => by simp [Value.ownBlock, e]))
        rw [hgq] at this
        exact this
      (repeat (first | with_reducible refine W.seq ?_ | with_reducible refine Ops.nil ?_ | with_reducible refine W.region ?_ | refine z_p (kk := ?_) | refine z_a (kk := ?_) | refine z_y (kk := ?_) | refine z_n (kk := ?_) | refine z_u (kk := ?_) | with_reducible refine W.skip ?_ | with_reducible refine W.endb ?_ | with_reducible refine W.block ?_ | refine W.exit rfl ?_ | refine z_l (kk := ?_) | refine z_f (kk := ?_) | refine z_M (kk := ?_) | refine z_m (kk := ?_) | refine z_e (kk := ?_) | refine z_E (kk := ?_) | refine z_d (kk := ?_)))
      exact W.endl ⟨_, _, ⟨⟨j + 1, _, _, rfl, by omega, rfl, hL7⟩, by omega⟩, (by repeat (first | exact trivial | refine And.intro rfl ?_))⟩
    · have hlt : j = rounds ps most := by have := hb.2; rw [hc] at this; simp at this; omega
      subst hlt
      clear hb hj
      have hcl := chM_len ps (rounds ps most)
      have hrl : rounds ps most ≤ 59 := by omega
      generalize hR : rounds ps most = R at *
      generalize hC : chM ps R = C at *
      have hrow := hL.row
      rw [hcl] at hrow
      obtain ⟨g, cap, rfl, hcell⟩ := own_at hrow (by omega)
      (repeat (first | with_reducible refine W.seq ?_ | with_reducible refine Ops.nil ?_ | with_reducible refine W.region ?_ | refine z_p (kk := ?_) | refine z_a (kk := ?_) | refine z_y (kk := ?_) | refine z_n (kk := ?_) | refine z_u (kk := ?_) | with_reducible refine W.skip ?_ | with_reducible refine W.endb ?_ | with_reducible refine W.block ?_ | refine W.exit rfl ?_ | refine z_l (kk := ?_) | refine z_f (kk := ?_) | refine z_M (kk := ?_) | refine z_m (kk := ?_) | refine z_e (kk := ?_) | refine z_E (kk := ?_) | refine z_d (kk := ?_)))
      refine W.loop (fun m ρ w5 => ∃ (j : Nat) (ov2 : Value) (xs : List Value), m = R + 1 - j ∧ j ≤ R + 1 ∧ ρ = [(1, .slice Aw ws.length cw), (7, .slice (some ⟨g, 0, none⟩) (R + 1) cap), (11, ov2), (12, .int .i64 j)] ∧ Below w4.heap.size w4 w5 ∧
          w5.ownsRow 0 47 2 ov2 j xs ∧ (∀ k, ov2.ownBlock = some k → w4.heap.size ≤ k) ∧ ∀ i, i < j → xs.getD (i * 2) undef = svs.getD i undef ∧ xs.getD (i * 2 + 1) undef = .int .i64 (tameN ps ws C i).2)
        ⟨_, _, ⟨0, _, [], rfl, Nat.zero_le _, rfl, Below.refl _ _, own_nil _ _ _, fun k hk => by simp [Value.ownBlock] at hk, fun i hi => by omega⟩, (by repeat (first | exact trivial | refine And.intro rfl ?_))⟩ ?_
      rintro m ρ w5 ⟨j, ov2, xs, rfl, hj, rfl, hb5, hown2, hge2, hxs⟩
      have hL5 := hL.fresh (Kp.of_below (S := fun _ => False) hb5) (fun _ e => e.elim)
      have hrow5 := hL5.row
      rw [hcl] at hrow5
      (repeat (first | with_reducible refine W.seq ?_ | with_reducible refine Ops.nil ?_ | with_reducible refine W.region ?_ | refine z_p (kk := ?_) | refine z_a (kk := ?_) | refine z_y (kk := ?_) | refine z_n (kk := ?_) | refine z_u (kk := ?_) | with_reducible refine W.skip ?_ | with_reducible refine W.endb ?_ | with_reducible refine W.block ?_ | refine W.exit rfl ?_ | refine z_l (kk := ?_) | refine z_f (kk := ?_) | refine z_M (kk := ?_) | refine z_m (kk := ?_) | refine z_e (kk := ?_) | refine z_E (kk := ?_) | refine z_d (kk := ?_)))
      refine W.cond rfl (fun hc => ?_) (fun hc => ?_)
      · have hlt : j < R + 1 := by simp at hc; omega
        have hxl := hown2.1
        have hci := own_cell hrow5 (a := j * 1) (b := 0) (by omega) (by omega)
        have hownj := hL5.own j (by omega)
        obtain ⟨Aj, cj, hsj⟩ := Sl.sl (own_sl (enc := Value.int .i64) (z := (0 : Int)) hownj)
        have hone : (svs.getD j undef).oneCell' = true := by rw [hsj]; rfl
        have hci' : w5.cell? ⟨g, j, none⟩ = some (.slice Aj (C.getD j []).length cj) := by rw [← hsj]; simpa [add_lit] using hci
        (repeat (first | with_reducible refine W.seq ?_ | with_reducible refine Ops.nil ?_ | with_reducible refine W.region ?_ | refine z_p (kk := ?_) | refine z_a (kk := ?_) | refine z_y (kk := ?_) | refine z_n (kk := ?_) | refine z_u (kk := ?_) | with_reducible refine W.skip ?_ | with_reducible refine W.endb ?_ | with_reducible refine W.block ?_ | refine W.exit rfl ?_ | refine z_l (kk := ?_) | refine z_f (kk := ?_) | refine z_M (kk := ?_) | refine z_m (kk := ?_) | refine z_e (kk := ?_) | refine z_E (kk := ?_) | refine z_d (kk := ?_)))
        refine Ops.idx rfl rfl rfl rfl rfl rfl rfl (by omega) (by omega) (Ops.ld rfl rfl rfl rfl rfl (v := .slice Aj (C.getD j []).length cj) (by simpa [add_lit] using hci') ?_)
        refine Ops.bldG (cs := #[.slice Aj (C.getD j []).length cj, .int .i64 0]) rfl rfl rfl rfl rfl rfl (by kernel_rfl) ?_
        refine Ops.alloc rfl rfl rfl rfl (fun w6 b hM => ?_)
        refine Ops.st2 rfl rfl rfl rfl rfl rfl rfl rfl hM.at_ (fun w7 hu7 => ?_)
        have hbe := hM.r_eq
        have k7 : Kp (fun i => w5.heap.size ≤ i) w5 w7 := (hM.kp.trans hu7.kp).mono (fun i _ e => by rcases e with e | e; exact e.elim; omega)
        have hci7 : w7.cell? ⟨g, j, none⟩ = some (.slice Aj (C.getD j []).length cj) := cell_kp k7 hci' (fun e => by
          have e2 : w5.heap.size ≤ g := e
          have := (hL5.row.lt g rfl).2
          omega)
        have hB7 := hu7.blk
        have hw7 := Sl.below hw (hL5.bel.trans ((Below.at_ (Below.refl _ _) k7 (fun i hi => hi)).mono hL5.bel.size))
        have htn : (tameN ps ws C j).2 = if (C.getD j []).length = 0 ∧ j < ws.length then modM (ws.getD j 0) 201 - 100 else 0 := rfl
        have hmb := modM_bd (ws.getD j 0) (n := 201) (by omega)
        (repeat (first | with_reducible refine W.seq ?_ | with_reducible refine Ops.nil ?_ | with_reducible refine W.region ?_ | refine z_p (kk := ?_) | refine z_a (kk := ?_) | refine z_y (kk := ?_) | refine z_n (kk := ?_) | refine z_u (kk := ?_) | with_reducible refine W.skip ?_ | with_reducible refine W.endb ?_ | with_reducible refine W.block ?_ | refine W.exit rfl ?_ | refine z_l (kk := ?_) | refine z_f (kk := ?_) | refine z_M (kk := ?_) | refine z_m (kk := ?_) | refine z_e (kk := ?_) | refine z_E (kk := ?_) | refine z_d (kk := ?_)))
        refine Ops.idx rfl rfl rfl rfl rfl rfl rfl (by omega) (by omega) (Ops.ld rfl rfl rfl rfl rfl (v := .slice Aj (C.getD j []).length cj) (by simpa [add_lit] using hci7) ?_)
        refine Ops.cut (fun ρ w' => ∃ b' : Bool, ρ = [(1, .slice Aw ws.length cw), (7, .slice (some ⟨g, 0, none⟩) (R + 1) cap), (11, ov2), (12, .int .i64 j), (13, .pointer (some ⟨b, 0, none⟩)), (71, .bool b')] ∧ w' = w7 ∧ (b' = true ↔ (C.getD j []).length = 0 ∧ j < ws.length)) ?_ ?_
        · (repeat' (first | with_reducible refine W.seq ?_ | with_reducible refine Ops.nil ?_ | with_reducible refine W.region ?_ | refine z_p (kk := ?_) | refine z_a (kk := ?_) | refine z_y (kk := ?_) | refine z_n (kk := ?_) | refine z_u (kk := ?_) | with_reducible refine W.skip ?_ | with_reducible refine W.endb ?_ | with_reducible refine W.block ?_ | refine W.exit rfl ?_ | refine z_l (kk := ?_) | refine z_f (kk := ?_) | refine z_M (kk := ?_) | refine z_m (kk := ?_) | refine z_e (kk := ?_) | refine z_E (kk := ?_) | refine z_d (kk := ?_) | refine Ops.gdT rfl rfl rfl rfl (fun _ => ?_) (fun _ => ?_) | refine Ops.gdF rfl rfl rfl rfl (fun _ => ?_) (fun _ => ?_)))
          all_goals refine W.endl ⟨_, ⟨_, rfl, rfl, ?_⟩, (by repeat (first | exact trivial | refine And.intro rfl ?_))⟩
          · rename_i h
            have h' : (C.getD j []).length = 0 := by simpa using h
            simp only [h', true_and, decide_eq_true_eq]
            omega
          · rename_i h
            have h' : ¬ (C.getD j []).length = 0 := by simpa using h
            exact ⟨fun h => by simp at h, fun h => absurd h.1 h'⟩
        · rintro ρ w8 ⟨b', rfl, rfl, hb'⟩
          refine W.cut (fun ρ w' => ∃ z, ρ = [(1, .slice Aw ws.length cw), (7, .slice (some ⟨g, 0, none⟩) (R + 1) cap), (11, ov2), (12, .int .i64 j), (13, .pointer (some ⟨b, 0, none⟩))] ∧ Kp (fun i => w5.heap.size ≤ i) w5 w' ∧ z = (tameN ps ws C j).2 ∧ Blk w' b #[.slice Aj (C.getD j []).length cj, .int .i64 z] 47) ?_ ?_
          · refine W.cond rfl (fun hc => ?_) (fun hc => ?_)
            · have h2 := hb'.1 hc
              (repeat (first | with_reducible refine W.seq ?_ | with_reducible refine Ops.nil ?_ | with_reducible refine W.region ?_ | refine z_p (kk := ?_) | refine z_a (kk := ?_) | refine z_y (kk := ?_) | refine z_n (kk := ?_) | refine z_u (kk := ?_) | with_reducible refine W.skip ?_ | with_reducible refine W.endb ?_ | with_reducible refine W.block ?_ | refine W.exit rfl ?_ | refine z_l (kk := ?_) | refine z_f (kk := ?_) | refine z_M (kk := ?_) | refine z_m (kk := ?_) | refine z_e (kk := ?_) | refine z_E (kk := ?_) | refine z_d (kk := ?_)))
              refine Ops.rdS (enc := Value.int .i64) (z := (0 : Int)) rfl rfl rfl rfl rfl rfl rfl rfl rfl rfl rfl hw7 (by omega) (by omega) (fun p => ?_)
              simp only [Int.toNat_natCast]
              (repeat (first | with_reducible refine W.seq ?_ | with_reducible refine Ops.nil ?_ | with_reducible refine W.region ?_ | refine z_p (kk := ?_) | refine z_a (kk := ?_) | refine z_y (kk := ?_) | refine z_n (kk := ?_) | refine z_u (kk := ?_) | with_reducible refine W.skip ?_ | with_reducible refine W.endb ?_ | with_reducible refine W.block ?_ | refine W.exit rfl ?_ | refine z_l (kk := ?_) | refine z_f (kk := ?_) | refine z_M (kk := ?_) | refine z_m (kk := ?_) | refine z_e (kk := ?_) | refine z_E (kk := ?_) | refine z_d (kk := ?_)))
              refine Ops.callS rfl rfl rfl rfl rfl (mod_c _ _ _ (by decide) (by decide)) ?_
              (repeat (first | with_reducible refine W.seq ?_ | with_reducible refine Ops.nil ?_ | with_reducible refine W.region ?_ | refine z_p (kk := ?_) | refine z_a (kk := ?_) | refine z_y (kk := ?_) | refine z_n (kk := ?_) | refine z_u (kk := ?_) | with_reducible refine W.skip ?_ | with_reducible refine W.endb ?_ | with_reducible refine W.block ?_ | refine W.exit rfl ?_ | refine z_l (kk := ?_) | refine z_f (kk := ?_) | refine z_M (kk := ?_) | refine z_m (kk := ?_) | refine z_e (kk := ?_) | refine z_E (kk := ?_) | refine z_d (kk := ?_)))
              refine Ops.st rfl rfl rfl rfl rfl rfl rfl hB7 (by simp) (fun w9 hu9 => ?_)
              (repeat (first | with_reducible refine W.seq ?_ | with_reducible refine Ops.nil ?_ | with_reducible refine W.region ?_ | refine z_p (kk := ?_) | refine z_a (kk := ?_) | refine z_y (kk := ?_) | refine z_n (kk := ?_) | refine z_u (kk := ?_) | with_reducible refine W.skip ?_ | with_reducible refine W.endb ?_ | with_reducible refine W.block ?_ | refine W.exit rfl ?_ | refine z_l (kk := ?_) | refine z_f (kk := ?_) | refine z_M (kk := ?_) | refine z_m (kk := ?_) | refine z_e (kk := ?_) | refine z_E (kk := ?_) | refine z_d (kk := ?_)))
              exact W.endl ⟨_, ⟨_, rfl, (k7.trans hu9.kp).mono (fun i _ e => by rcases e with e | e; exact e; omega), by rw [htn, if_pos h2], hu9.blk⟩, (by repeat (first | exact trivial | refine And.intro rfl ?_))⟩
            · (repeat (first | with_reducible refine W.seq ?_ | with_reducible refine Ops.nil ?_ | with_reducible refine W.region ?_ | refine z_p (kk := ?_) | refine z_a (kk := ?_) | refine z_y (kk := ?_) | refine z_n (kk := ?_) | refine z_u (kk := ?_) | with_reducible refine W.skip ?_ | with_reducible refine W.endb ?_ | with_reducible refine W.block ?_ | refine W.exit rfl ?_ | refine z_l (kk := ?_) | refine z_f (kk := ?_) | refine z_M (kk := ?_) | refine z_m (kk := ?_) | refine z_e (kk := ?_) | refine z_E (kk := ?_) | refine z_d (kk := ?_)))
              exact W.endl ⟨_, ⟨_, rfl, k7, by rw [htn, if_neg (fun h => by have := hb'.2 h; rw [hc] at this; simp at this)], hB7⟩, (by repeat (first | exact trivial | refine And.intro rfl ?_))⟩
          · rintro ρ w9 ⟨z, rfl, k9, hz, hB9⟩
            (repeat (first | with_reducible refine W.seq ?_ | with_reducible refine Ops.nil ?_ | with_reducible refine W.region ?_ | refine z_p (kk := ?_) | refine z_a (kk := ?_) | refine z_y (kk := ?_) | refine z_n (kk := ?_) | refine z_u (kk := ?_) | with_reducible refine W.skip ?_ | with_reducible refine W.endb ?_ | with_reducible refine W.block ?_ | refine W.exit rfl ?_ | refine z_l (kk := ?_) | refine z_f (kk := ?_) | refine z_M (kk := ?_) | refine z_m (kk := ?_) | refine z_e (kk := ?_) | refine z_E (kk := ?_) | refine z_d (kk := ?_)))
            refine Ops.ld2 rfl rfl rfl rfl rfl rfl (hB9.cell rfl) (by rw [add_lit]; exact hB9.cell rfl) ?_
            refine Ops.push2 rfl rfl rfl rfl rfl rfl rfl rfl rfl rfl rfl (fun _ => rfl) rfl rfl (own_kp hown2 k9 (fun i hi e => by have := (hown2.lt i hi).2; omega)) (by omega) (fun lv' p w10 ho10 k10 hn10 => ?_)
            have hb9 : Below w4.heap.size w4 w9 := Below.at_ hb5 k9 (fun i hi => by have := hb5.size; omega)
            (repeat (first | with_reducible refine W.seq ?_ | with_reducible refine Ops.nil ?_ | with_reducible refine W.region ?_ | refine z_p (kk := ?_) | refine z_a (kk := ?_) | refine z_y (kk := ?_) | refine z_n (kk := ?_) | refine z_u (kk := ?_) | with_reducible refine W.skip ?_ | with_reducible refine W.endb ?_ | with_reducible refine W.block ?_ | refine W.exit rfl ?_ | refine z_l (kk := ?_) | refine z_f (kk := ?_) | refine z_M (kk := ?_) | refine z_m (kk := ?_) | refine z_e (kk := ?_) | refine z_E (kk := ?_) | refine z_d (kk := ?_)))
            refine W.endl ⟨_, _, ⟨⟨j + 1, _, _, rfl, by omega, rfl, Below.at_ hb9 k10 (fun i hi => hge2 i hi), ho10, fun k hk => ?_, fun i hi => ?_⟩, by omega⟩, (by repeat (first | exact trivial | refine And.intro rfl ?_))⟩
            · rcases hn10 k hk with e | e
              · exact hge2 k e
              · have := hb9.size; omega
            · by_cases e : i = j
              · subst e
                refine ⟨?_, ?_⟩
                · rw [List.getD_eq_getElem?_getD, List.getElem?_append_right (by omega), hsj]; simp [hxl]
                · rw [List.getD_eq_getElem?_getD, List.getElem?_append_right (by omega), ← hz]; simp [hxl]
              · have := hxs i (by omega)
                rw [gapp (by omega), gapp (by omega)]
                exact this
      · have hlt : j = R + 1 := by simp at hc; omega
        subst hlt
        (repeat (first | with_reducible refine W.seq ?_ | with_reducible refine Ops.nil ?_ | with_reducible refine W.region ?_ | refine z_p (kk := ?_) | refine z_a (kk := ?_) | refine z_y (kk := ?_) | refine z_n (kk := ?_) | refine z_u (kk := ?_) | with_reducible refine W.skip ?_ | with_reducible refine W.endb ?_ | with_reducible refine W.block ?_ | refine W.exit rfl ?_ | refine z_l (kk := ?_) | refine z_f (kk := ?_) | refine z_M (kk := ?_) | refine z_m (kk := ?_) | refine z_e (kk := ?_) | refine z_E (kk := ?_) | refine z_d (kk := ?_)))
        obtain ⟨g2, cap2, rfl, hc2⟩ := own_at hown2 (by omega)
        have hlen : (tameM ps ws most).length = R + 1 := by rw [tameM_len, hR]
        have hat : ∀ i, i < R + 1 → (tameM ps ws most).getD i ([], 0) = tameN ps ws C i := fun i hi => by rw [tameM_at (by omega), hR, hC]
        refine W.fret rfl ⟨⟨some ⟨g2, 0, none⟩, cap2, svs, by rw [hlen]; rfl, fun _ => ⟨_, rfl, fun i hi => ?_⟩, fun i hi => ?_⟩, hL5.bel⟩
        · rw [hlen] at hi
          have := hxs i hi
          rw [add_lit, add_lit, Nat.zero_add, hat i hi]
          exact ⟨by rw [hc2 _ (by omega), this.1], by rw [hc2 _ (by omega), this.2]⟩
        · rw [hlen] at hi
          rw [hat i hi]
          exact own_sl (z := (0 : Int)) (hL5.own i (by omega))
end Go.Proofs.Ytdiljpnfochndaa
namespace Go.Proofs.Ytdiljpnfochndaa
open Go Go.RowKit Go.Proofs.Ytdiljpnfochndaa.VW
open Go.Proofs.Ytdiljpnfochndaa.HP (Nd kid wor leafB rd modM modM_bd chM chM_len rounds tameM tameN addKid tameM_len tameM_at tame_TK gameOf gameOf_TF ValP far)
attribute [local irreducible] W Ops
theorem pickL_mem {p : Nat → Bool} {n : Nat} {x : Int} : x ∈ pickL p n ↔ ∃ i : Nat, i < n ∧ p i = true ∧ x = i := by
  simp only [pickL, List.mem_map, List.mem_filter, List.mem_range]
  exact ⟨fun ⟨i, h, e⟩ => ⟨i, h.1, h.2, e.symm⟩, fun ⟨i, h1, h2, e⟩ => ⟨i, ⟨h1, h2⟩, e.symm⟩⟩
theorem pickL_up (p : Nat → Bool) (n : Nat) : (pickL p n).Pairwise (· < ·) := by
  unfold pickL
  rw [List.pairwise_map]
  exact ((List.pairwise_lt_range (n := n)).filter _).imp fun h => by omega
theorem up_listed {l : List Nd} {xs : List Int} (hu : xs.Pairwise (· < ·)) (hm : ∀ x ∈ xs, 0 ≤ x ∧ x < l.length ∧ leafB l x = true) : Listed l xs := by
  intro k hk
  have hx : xs.getD k 0 ∈ xs := by
    rw [List.getD_eq_getElem?_getD, List.getElem?_eq_getElem hk]
    exact List.getElem_mem hk
  obtain ⟨h1, h2, h3⟩ := hm _ hx
  refine ⟨h1, by omega, h3, fun h0 => ?_⟩
  have := List.pairwise_iff_getElem.1 hu (k - 1) k (by omega) hk (by omega)
  simpa [List.getD_eq_getElem?_getD, hk, show k - 1 < xs.length by omega] using this
theorem pickL_listed {l : List Nd} {p : Nat → Bool} (hp : ∀ i : Nat, i < l.length → p i = true → leafB l i = true) : Listed l (pickL p l.length) :=
  up_listed (pickL_up p _) fun x hx => by
    obtain ⟨i, h1, h2, rfl⟩ := pickL_mem.1 hx
    exact ⟨by omega, by omega, hp i h1 h2⟩
def moreP (l : List Nd) (os : List Int) (i : Nat) : Bool := leafB l i && decide (i < os.length) && decide (0 < modM (os.getD i 0) 4)
theorem some_more {l : List Nd} {os : List Int} {i : Nat} (h : someP l os i = true) : moreP l os i = true := by
  simp only [someP, moreP, Bool.and_eq_true, beq_iff_eq, decide_eq_true_eq] at h ⊢
  refine ⟨h.1, ?_⟩
  have := h.2
  unfold modM at *
  omega
theorem worst_mono {l : List Nd} (hw : ∀ a : Nat, a < l.length → -100 ≤ wor l a) {xs ys : List Int} (h : ∀ x ∈ xs, x ∈ ys) (i : Nat) (hi : i < l.length) : worstF l xs i ≤ worstF l ys i := by
  unfold worstF
  have := hw i hi
  by_cases h1 : (i : Int) ∈ xs
  · rw [if_pos (by simpa using h1), if_pos (by simpa using h _ h1)]
    omega
  · rw [if_neg (by simpa using h1)]
    split
    · simp only [far]; omega
    · omega
set_option maxRecDepth 100000 in
theorem more_c {w : World} {pv wv ov : Value} {ps ws os : List Int} {b : Int} (hp : SlI w pv ps) (hw : SlI w wv ws) (ho : SlI w ov os) :
    Calls Try.prog 6 #[pv, wv, ov, .int .i64 b] w (Ret fun r w' => r = .bool true ∧ Below w.heap.size w w') := by
  refine calls_W (vs := [_, _, _, _]) Try.func6 rfl (by kernel_rfl) rfl ?_
  (repeat (first | with_reducible refine W.seq ?_ | with_reducible refine Ops.nil ?_ | with_reducible refine W.region ?_ | refine z_p (kk := ?_) | refine z_a (kk := ?_) | refine z_y (kk := ?_) | refine z_n (kk := ?_) | refine z_u (kk := ?_) | with_reducible refine W.skip ?_ | with_reducible refine W.endb ?_ | with_reducible refine W.block ?_ | refine W.exit rfl ?_ | refine z_l (kk := ?_) | refine z_f (kk := ?_) | refine z_M (kk := ?_) | refine z_m (kk := ?_) | refine z_e (kk := ?_) | refine z_E (kk := ?_) | refine z_d (kk := ?_)))
  refine Ops.call rfl rfl rfl rfl rfl (tame_c (most := 60) hp hw (by decide) (by decide)) (fun tv w1 hR => ?_)
  obtain ⟨hT1, hb1⟩ := hR
  have hTK := tame_TK (ps := ps) (ws := ws) (most := 60) (by decide) (by decide)
  generalize tameM ps ws 60 = l at *
  obtain ⟨dep, hg⟩ := hTK.game
  have hTF := gameOf_TF hg
  have hn60 := hTF.n60
  have hn1 := hTF.n1
  have hmb := modM_bd b (n := 201) (by omega)
  (repeat (first | with_reducible refine W.seq ?_ | with_reducible refine Ops.nil ?_ | with_reducible refine W.region ?_ | refine z_p (kk := ?_) | refine z_a (kk := ?_) | refine z_y (kk := ?_) | refine z_n (kk := ?_) | refine z_u (kk := ?_) | with_reducible refine W.skip ?_ | with_reducible refine W.endb ?_ | with_reducible refine W.block ?_ | refine W.exit rfl ?_ | refine z_l (kk := ?_) | refine z_f (kk := ?_) | refine z_M (kk := ?_) | refine z_m (kk := ?_) | refine z_e (kk := ?_) | refine z_E (kk := ?_) | refine z_d (kk := ?_)))
  refine Ops.callS rfl rfl rfl rfl rfl (mod_c _ _ _ (by decide) (by decide)) ?_
  generalize modM b 201 = b' at *
  (repeat (first | with_reducible refine W.seq ?_ | with_reducible refine Ops.nil ?_ | with_reducible refine W.region ?_ | refine z_p (kk := ?_) | refine z_a (kk := ?_) | refine z_y (kk := ?_) | refine z_n (kk := ?_) | refine z_u (kk := ?_) | with_reducible refine W.skip ?_ | with_reducible refine W.endb ?_ | with_reducible refine W.block ?_ | refine W.exit rfl ?_ | refine z_l (kk := ?_) | refine z_f (kk := ?_) | refine z_M (kk := ?_) | refine z_m (kk := ?_) | refine z_e (kk := ?_) | refine z_E (kk := ?_) | refine z_d (kk := ?_)))
  refine Ops.call rfl rfl rfl rfl rfl (some_c hT1 hn60 (Sl.below ho hb1)) (fun sv w2 hI2 => ?_)
  have hb2 := hb1.trans (hI2.bel.mono hb1.size)
  have hT2 := hT1.below hI2.bel
  obtain ⟨At, ct, rfl⟩ := hT2.sl
  have hol := Sl.len ho
  obtain ⟨A2, c2, rfl⟩ := Sl.sl ho
  have hsv := hI2.sl
  have hone : sv.oneCell' = true := by obtain ⟨A, c, h⟩ := Sl.sl hsv; rw [h]; rfl
  (repeat (first | with_reducible refine W.seq ?_ | with_reducible refine Ops.nil ?_ | with_reducible refine W.region ?_ | refine z_p (kk := ?_) | refine z_a (kk := ?_) | refine z_y (kk := ?_) | refine z_n (kk := ?_) | refine z_u (kk := ?_) | with_reducible refine W.skip ?_ | with_reducible refine W.endb ?_ | with_reducible refine W.block ?_ | refine W.exit rfl ?_ | refine z_l (kk := ?_) | refine z_f (kk := ?_) | refine z_M (kk := ?_) | refine z_m (kk := ?_) | refine z_e (kk := ?_) | refine z_E (kk := ?_) | refine z_d (kk := ?_)))
  refine W.loop (fun m ρ w3 => ∃ (j : Nat) (lv : Value), m = l.length - j ∧ j ≤ l.length ∧ ρ = [(2, .slice A2 os.length c2), (3, .int .i64 (b' - 100)), (9, .slice At l.length ct), (10, sv), (11, lv), (12, .int .i64 j)] ∧ FInv w2 w3 lv (pickL (moreP l os) j))
    ⟨_, _, ⟨0, _, rfl, Nat.zero_le _, rfl, FInv.nil (Below.refl _ _)⟩, (by repeat (first | exact trivial | refine And.intro rfl ?_))⟩ ?_
  rintro m ρ w3 ⟨j, lv, rfl, hj, rfl, hI⟩
  have hb3 := hI.bel
  have ho3 := Sl.below ho (hb2.trans (hb3.mono hb2.size))
  have hpl := pickL_len (moreP l os) j
  (repeat (first | with_reducible refine W.seq ?_ | with_reducible refine Ops.nil ?_ | with_reducible refine W.region ?_ | refine z_p (kk := ?_) | refine z_a (kk := ?_) | refine z_y (kk := ?_) | refine z_n (kk := ?_) | refine z_u (kk := ?_) | with_reducible refine W.skip ?_ | with_reducible refine W.endb ?_ | with_reducible refine W.block ?_ | refine W.exit rfl ?_ | refine z_l (kk := ?_) | refine z_f (kk := ?_) | refine z_M (kk := ?_) | refine z_m (kk := ?_) | refine z_e (kk := ?_) | refine z_E (kk := ?_) | refine z_d (kk := ?_)))
  refine W.cond rfl (fun hc => ?_) (fun hc => ?_)
  · have hlt : j < l.length := by simp at hc; omega
    (repeat (first | with_reducible refine W.seq ?_ | with_reducible refine Ops.nil ?_ | with_reducible refine W.region ?_ | refine z_p (kk := ?_) | refine z_a (kk := ?_) | refine z_y (kk := ?_) | refine z_n (kk := ?_) | refine z_u (kk := ?_) | with_reducible refine W.skip ?_ | with_reducible refine W.endb ?_ | with_reducible refine W.block ?_ | refine W.exit rfl ?_ | refine z_l (kk := ?_) | refine z_f (kk := ?_) | refine z_M (kk := ?_) | refine z_m (kk := ?_) | refine z_e (kk := ?_) | refine z_E (kk := ?_) | refine z_d (kk := ?_)))
    refine Ops.rdK rfl rfl rfl rfl rfl rfl rfl rfl rfl rfl rfl rfl rfl rfl rfl hT2 hb3 (by omega) (by omega) (fun cv p q hcv => ?_)
    obtain ⟨Ac, cc, rfl⟩ := Sl.sl hcv
    refine Ops.cut (fun ρ w' => ∃ b : Bool, ρ = [(2, .slice A2 os.length c2), (3, .int .i64 (b' - 100)), (9, .slice At l.length ct), (10, sv), (11, lv), (12, .int .i64 j), (54, .bool b)] ∧ w' = w3 ∧ b = moreP l os j) ?_ ?_
    · (repeat' (first | with_reducible refine W.seq ?_ | with_reducible refine Ops.nil ?_ | with_reducible refine W.region ?_ | refine z_p (kk := ?_) | refine z_a (kk := ?_) | refine z_y (kk := ?_) | refine z_n (kk := ?_) | refine z_u (kk := ?_) | with_reducible refine W.skip ?_ | with_reducible refine W.endb ?_ | with_reducible refine W.block ?_ | refine W.exit rfl ?_ | refine z_l (kk := ?_) | refine z_f (kk := ?_) | refine z_M (kk := ?_) | refine z_m (kk := ?_) | refine z_e (kk := ?_) | refine z_E (kk := ?_) | refine z_d (kk := ?_) | refine Ops.gdT rfl rfl rfl rfl (fun _ => ?_) (fun _ => ?_) | refine Ops.gdF rfl rfl rfl rfl (fun _ => ?_) (fun _ => ?_) | refine Ops.callS rfl rfl rfl rfl rfl (mod_c _ _ _ (by decide) (by decide)) ?_ | (refine Ops.rdSg (enc := Value.int .i64) (z := (0 : Int)) rfl rfl rfl rfl rfl rfl rfl rfl rfl rfl rfl rfl rfl rfl ho3 (by omega) (by rename_i hh; simp at hh; omega) (fun p => ?_))))
      all_goals refine W.endl ⟨_, ⟨_, rfl, rfl, ?_⟩, (by repeat (first | exact trivial | refine And.intro rfl ?_))⟩
      · rename_i h1 h2
        unfold moreP
        rw [leafB_len, h1, show decide (j < os.length) = true by simpa using h2]
        rfl
      · rename_i h1 h2
        unfold moreP
        rw [leafB_len, h1, show decide (j < os.length) = false by simpa using h2]
        rfl
      · rename_i h1
        unfold moreP
        rw [leafB_len, h1]
        rfl
    · rintro ρ w4 ⟨b, rfl, rfl, hb⟩
      (repeat (first | with_reducible refine W.seq ?_ | with_reducible refine Ops.nil ?_ | with_reducible refine W.region ?_ | refine z_p (kk := ?_) | refine z_a (kk := ?_) | refine z_y (kk := ?_) | refine z_n (kk := ?_) | refine z_u (kk := ?_) | with_reducible refine W.skip ?_ | with_reducible refine W.endb ?_ | with_reducible refine W.block ?_ | refine W.exit rfl ?_ | refine z_l (kk := ?_) | refine z_f (kk := ?_) | refine z_M (kk := ?_) | refine z_m (kk := ?_) | refine z_e (kk := ?_) | refine z_E (kk := ?_) | refine z_d (kk := ?_)))
      have hs := pickL_succ (moreP l os) j
      rw [← hb] at hs
      refine W.cond rfl (fun hc2 => ?_) (fun hc2 => ?_)
      · rw [hc2, if_pos rfl] at hs
        (repeat (first | with_reducible refine W.seq ?_ | with_reducible refine Ops.nil ?_ | with_reducible refine W.region ?_ | refine z_p (kk := ?_) | refine z_a (kk := ?_) | refine z_y (kk := ?_) | refine z_n (kk := ?_) | refine z_u (kk := ?_) | with_reducible refine W.skip ?_ | with_reducible refine W.endb ?_ | with_reducible refine W.block ?_ | refine W.exit rfl ?_ | refine z_l (kk := ?_) | refine z_f (kk := ?_) | refine z_M (kk := ?_) | refine z_m (kk := ?_) | refine z_e (kk := ?_) | refine z_E (kk := ?_) | refine z_d (kk := ?_)))
        refine Ops.push rfl rfl rfl rfl rfl rfl rfl rfl rfl rfl rfl rfl (fun _ => rfl) rfl hI.own (by omega) (fun lv' p w5 ho5 k5 hn5 => ?_)
        have hI5 := hI.push ho5 k5 hn5
        rw [← hs] at hI5
        (repeat (first | with_reducible refine W.seq ?_ | with_reducible refine Ops.nil ?_ | with_reducible refine W.region ?_ | refine z_p (kk := ?_) | refine z_a (kk := ?_) | refine z_y (kk := ?_) | refine z_n (kk := ?_) | refine z_u (kk := ?_) | with_reducible refine W.skip ?_ | with_reducible refine W.endb ?_ | with_reducible refine W.block ?_ | refine W.exit rfl ?_ | refine z_l (kk := ?_) | refine z_f (kk := ?_) | refine z_M (kk := ?_) | refine z_m (kk := ?_) | refine z_e (kk := ?_) | refine z_E (kk := ?_) | refine z_d (kk := ?_)))
        exact W.endl ⟨_, _, ⟨⟨j + 1, _, rfl, by omega, rfl, hI5⟩, by omega⟩, (by repeat (first | exact trivial | refine And.intro rfl ?_))⟩
      · rw [hc2, if_neg (by simp), List.append_nil] at hs
        rw [← hs] at hI
        (repeat (first | with_reducible refine W.seq ?_ | with_reducible refine Ops.nil ?_ | with_reducible refine W.region ?_ | refine z_p (kk := ?_) | refine z_a (kk := ?_) | refine z_y (kk := ?_) | refine z_n (kk := ?_) | refine z_u (kk := ?_) | with_reducible refine W.skip ?_ | with_reducible refine W.endb ?_ | with_reducible refine W.block ?_ | refine W.exit rfl ?_ | refine z_l (kk := ?_) | refine z_f (kk := ?_) | refine z_M (kk := ?_) | refine z_m (kk := ?_) | refine z_e (kk := ?_) | refine z_E (kk := ?_) | refine z_d (kk := ?_)))
        exact W.endl ⟨_, _, ⟨⟨j + 1, _, rfl, by omega, rfl, hI⟩, by omega⟩, (by repeat (first | exact trivial | refine And.intro rfl ?_))⟩
  · have hlt : j = l.length := by simp at hc; omega
    subst hlt
    have hT3 := hT2.below hb3
    have hsv3 := Sl.below hsv hb3
    have hb03 := hb2.trans (hb3.mono hb2.size)
    have hls : Listed l (pickL (someP l os) l.length) := pickL_listed fun i _ h => by simp only [someP, Bool.and_eq_true] at h; exact h.1.1
    have hlm : Listed l (pickL (moreP l os) l.length) := pickL_listed fun i _ h => by simp only [moreP, Bool.and_eq_true] at h; exact h.1.1
    have hsub : ∀ x ∈ pickL (someP l os) l.length, x ∈ pickL (moreP l os) l.length := fun x hx => by
      obtain ⟨i, h1, h2, rfl⟩ := pickL_mem.1 hx
      exact pickL_mem.2 ⟨i, h1, some_more h2, rfl⟩
    generalize pickL (someP l os) l.length = S at *
    generalize pickL (moreP l os) l.length = M at *
    (repeat (first | with_reducible refine W.seq ?_ | with_reducible refine Ops.nil ?_ | with_reducible refine W.region ?_ | refine z_p (kk := ?_) | refine z_a (kk := ?_) | refine z_y (kk := ?_) | refine z_n (kk := ?_) | refine z_u (kk := ?_) | with_reducible refine W.skip ?_ | with_reducible refine W.endb ?_ | with_reducible refine W.block ?_ | refine W.exit rfl ?_ | refine z_l (kk := ?_) | refine z_f (kk := ?_) | refine z_M (kk := ?_) | refine z_m (kk := ?_) | refine z_e (kk := ?_) | refine z_E (kk := ?_) | refine z_d (kk := ?_)))
    refine Ops.call rfl rfl rfl rfl rfl (decides_c hT3 (by omega) hsv3) (fun r w5 hR => ?_)
    obtain ⟨hb5, hR⟩ := hR
    unfold DecR at hR
    rw [if_pos ⟨hls, by omega⟩, hg] at hR
    obtain ⟨va, hva, rfl⟩ := hR
    have hb05 := hb03.trans (hb5.mono hb03.size)
    have hT5 := hT3.below hb5
    have hsv5 := Sl.below hsv3 hb5
    have hlv5 := Sl.below hI.sl hb5
    (repeat (first | with_reducible refine W.seq ?_ | with_reducible refine Ops.nil ?_ | with_reducible refine W.region ?_ | refine z_p (kk := ?_) | refine z_a (kk := ?_) | refine z_y (kk := ?_) | refine z_n (kk := ?_) | refine z_u (kk := ?_) | with_reducible refine W.skip ?_ | with_reducible refine W.endb ?_ | with_reducible refine W.block ?_ | refine W.exit rfl ?_ | refine z_l (kk := ?_) | refine z_f (kk := ?_) | refine z_M (kk := ?_) | refine z_m (kk := ?_) | refine z_e (kk := ?_) | refine z_E (kk := ?_) | refine z_d (kk := ?_)))
    refine Ops.call rfl rfl rfl rfl rfl (decides_c hT5 (by omega) hsv5) (fun r w6 hR => ?_)
    obtain ⟨hb6, hR⟩ := hR
    unfold DecR at hR
    rw [if_pos ⟨hls, by omega⟩, hg] at hR
    obtain ⟨vb, hvb, rfl⟩ := hR
    have hb06 := hb05.trans (hb6.mono hb05.size)
    have hT6 := hT5.below hb6
    have hlv6 := Sl.below hlv5 hb6
    (repeat (first | with_reducible refine W.seq ?_ | with_reducible refine Ops.nil ?_ | with_reducible refine W.region ?_ | refine z_p (kk := ?_) | refine z_a (kk := ?_) | refine z_y (kk := ?_) | refine z_n (kk := ?_) | refine z_u (kk := ?_) | with_reducible refine W.skip ?_ | with_reducible refine W.endb ?_ | with_reducible refine W.block ?_ | refine W.exit rfl ?_ | refine z_l (kk := ?_) | refine z_f (kk := ?_) | refine z_M (kk := ?_) | refine z_m (kk := ?_) | refine z_e (kk := ?_) | refine z_E (kk := ?_) | refine z_d (kk := ?_)))
    refine Ops.call rfl rfl rfl rfl rfl (decides_c hT6 (by omega) hlv6) (fun r w7 hR => ?_)
    obtain ⟨hb7, hR⟩ := hR
    unfold DecR at hR
    rw [if_pos ⟨hlm, by omega⟩, hg] at hR
    obtain ⟨vc, hvc, rfl⟩ := hR
    have hb07 := hb06.trans (hb7.mono hb06.size)
    have hab : vb = va := ValP.uniq hTF hvb hva
    subst hab
    have hac := Go.Proofs.Ytdiljpnfochndaa.HP.val_mono hTF hva hvc (fun i hi _ => worst_mono (fun a ha => (hTF.wor a ha).1) hsub i hi) 0 (by omega)
    generalize vb.getD 0 0 = va0 at *
    generalize vc.getD 0 0 = vc0 at *
    have hx : decide (b' - 100 ≤ va0) = true → decide (b' - 100 - 1 ≤ va0) = true ∧ decide (b' - 100 ≤ vc0) = true := by simp; omega
    generalize decide (b' - 100 ≤ va0) = a at *
    generalize decide (b' - 100 - 1 ≤ va0) = c at *
    generalize decide (b' - 100 ≤ vc0) = d at *
    cases a with
    | true =>
      obtain ⟨rfl, rfl⟩ := hx rfl
      (repeat (first | with_reducible refine W.seq ?_ | with_reducible refine Ops.nil ?_ | with_reducible refine W.region ?_ | refine z_p (kk := ?_) | refine z_a (kk := ?_) | refine z_y (kk := ?_) | refine z_n (kk := ?_) | refine z_u (kk := ?_) | with_reducible refine W.skip ?_ | with_reducible refine W.endb ?_ | with_reducible refine W.block ?_ | refine W.exit rfl ?_ | refine z_l (kk := ?_) | refine z_f (kk := ?_) | refine z_M (kk := ?_) | refine z_m (kk := ?_) | refine z_e (kk := ?_) | refine z_E (kk := ?_) | refine z_d (kk := ?_)))
      refine Ops.call rfl rfl rfl rfl rfl (awake_c w7) (fun r w8 hR => ?_)
      obtain ⟨rfl, hb8⟩ := hR
      (repeat (first | with_reducible refine W.seq ?_ | with_reducible refine Ops.nil ?_ | with_reducible refine W.region ?_ | refine z_p (kk := ?_) | refine z_a (kk := ?_) | refine z_y (kk := ?_) | refine z_n (kk := ?_) | refine z_u (kk := ?_) | with_reducible refine W.skip ?_ | with_reducible refine W.endb ?_ | with_reducible refine W.block ?_ | refine W.exit rfl ?_ | refine z_l (kk := ?_) | refine z_f (kk := ?_) | refine z_M (kk := ?_) | refine z_m (kk := ?_) | refine z_e (kk := ?_) | refine z_E (kk := ?_) | refine z_d (kk := ?_)))
      exact W.fret rfl ⟨rfl, hb07.trans (hb8.mono hb07.size)⟩
    | false =>
      (repeat (first | with_reducible refine W.seq ?_ | with_reducible refine Ops.nil ?_ | with_reducible refine W.region ?_ | refine z_p (kk := ?_) | refine z_a (kk := ?_) | refine z_y (kk := ?_) | refine z_n (kk := ?_) | refine z_u (kk := ?_) | with_reducible refine W.skip ?_ | with_reducible refine W.endb ?_ | with_reducible refine W.block ?_ | refine W.exit rfl ?_ | refine z_l (kk := ?_) | refine z_f (kk := ?_) | refine z_M (kk := ?_) | refine z_m (kk := ?_) | refine z_e (kk := ?_) | refine z_E (kk := ?_) | refine z_d (kk := ?_)))
      refine Ops.call rfl rfl rfl rfl rfl (awake_c w7) (fun r w8 hR => ?_)
      obtain ⟨rfl, hb8⟩ := hR
      (repeat (first | with_reducible refine W.seq ?_ | with_reducible refine Ops.nil ?_ | with_reducible refine W.region ?_ | refine z_p (kk := ?_) | refine z_a (kk := ?_) | refine z_y (kk := ?_) | refine z_n (kk := ?_) | refine z_u (kk := ?_) | with_reducible refine W.skip ?_ | with_reducible refine W.endb ?_ | with_reducible refine W.block ?_ | refine W.exit rfl ?_ | refine z_l (kk := ?_) | refine z_f (kk := ?_) | refine z_M (kk := ?_) | refine z_m (kk := ?_) | refine z_e (kk := ?_) | refine z_E (kk := ?_) | refine z_d (kk := ?_)))
      exact W.fret rfl ⟨rfl, hb07.trans (hb8.mono hb07.size)⟩
end Go.Proofs.Ytdiljpnfochndaa
namespace Go.Proofs.Ytdiljpnfochndaa
open Go Go.RowKit Go.Proofs.Ytdiljpnfochndaa.VW
open Go.Proofs.Ytdiljpnfochndaa.HP (Nd kid wor leafB rd modM modM_bd tameM tame_TK gameOf gameOf_TF ValP far Ef NeedP TF)
attribute [local irreducible] W Ops
theorem numF_3 {l : List Nd} {xs : List Int} {b : Int} {mx : Bool} (i : Int) : numF l xs b mx i = 0 ∨ numF l xs b mx i = 1 ∨ numF l xs b mx i = far := by
  unfold numF
  split
  · split
    · exact .inl rfl
    · exact .inr (.inr rfl)
  · exact .inr (.inl rfl)
theorem num_facts {l : List Nd} {dep S : List Int} {b y z : Int} (hT : TF l dep) (hy : NumR l dep S b true y) (hz : NumR l dep S b false z) : (y = 0 ↔ z = -1) ∧ (z = 0 ↔ y = -1) ∧ -1 ≤ y ∧ -1 ≤ z := by
  obtain ⟨es, hE, rfl⟩ := hy
  obtain ⟨fs, hF, rfl⟩ := hz
  have h1 := hT.n1
  have hd := Go.Proofs.Ytdiljpnfochndaa.HP.dual hT hE hF (fun i _ => numF_3 _) (fun i _ => numF_3 _) (fun i _ _ => by
    unfold numF
    by_cases hc : S.contains (i : Int)
    · rw [if_pos hc, if_pos hc]
      by_cases hw : b ≤ wor l i <;> simp [hw, far]
    · rw [if_neg hc, if_neg hc]; simp [far]) 0 (by omega)
  have sE := (Go.Proofs.Ytdiljpnfochndaa.HP.need_small hT hE (fun i _ => numF_3 _) 0 (by omega)).2
  have sF := (Go.Proofs.Ytdiljpnfochndaa.HP.need_small hT hF (fun i _ => numF_3 _) 0 (by omega)).2
  have e1 := sE.lo
  have e2 := sE.hi
  have e3 := sF.lo
  have e4 := sF.hi
  generalize (es.getD 0 (0, [])).1 = T at *
  generalize (fs.getD 0 (0, [])).1 = F at *
  simp only [far] at *
  split <;> split <;> omega
theorem num_dec {l : List Nd} {dep S vs : List Int} {b y : Int} (hT : TF l dep) (hb : -1000 ≤ b) (hy : NumR l dep S b true y) (hv : ValP l dep (worstF l S) vs) : y = 0 ↔ b ≤ vs.getD 0 0 := by
  obtain ⟨es, hE, rfl⟩ := hy
  have h1 := hT.n1
  have := Go.Proofs.Ytdiljpnfochndaa.HP.zero_iff (b := b) hT hE hv (fun i _ => numF_3 _) (fun i _ _ => by
    unfold numF worstF
    by_cases hc : S.contains (i : Int)
    · rw [if_pos hc, if_pos hc]
      by_cases hw : b ≤ wor l i <;> simp [hw, far]
    · rw [if_neg hc, if_neg hc]; simp [far]; omega) 0 (by omega)
  rw [← this]
  split
  · rename_i h
    constructor
    · intro e; omega
    · intro e; rw [e] at h; simp [far] at h
  · rfl
theorem num_all {l : List Nd} {dep S vs : List Int} {b y : Int} (hT : TF l dep) (hS : ∀ i : Nat, i < l.length → leafB l i = true → (i : Int) ∈ S) (hy : NumR l dep S b true y) (hv : ValP l dep (wor l) vs) : (b ≤ vs.getD 0 0 → y = 0) ∧ (vs.getD 0 0 < b → y = -1) := by
  obtain ⟨es, hE, rfl⟩ := hy
  have h1 := hT.n1
  have hc : ∀ i : Nat, i < l.length → leafB l i = true → S.contains (i : Int) = true := fun i hi hl => by simpa using hS i hi hl
  have hz := Go.Proofs.Ytdiljpnfochndaa.HP.zero_iff (b := b) hT hE hv (fun i _ => numF_3 _) (fun i hi hl => by
    unfold numF
    rw [if_pos (hc i hi hl)]
    by_cases hw : b ≤ wor l i <;> simp [hw, far]) 0 (by omega)
  have hf := Go.Proofs.Ytdiljpnfochndaa.HP.zero_or_far hT hE (fun i _ => numF_3 _) (fun i hi hl => by
    unfold numF
    rw [if_pos (hc i hi hl)]
    by_cases hw : b ≤ wor l i <;> simp [hw]) 0 (by omega)
  refine ⟨fun h => ?_, fun h => ?_⟩
  · rw [hz.2 h]; rfl
  · rcases hf with e | e
    · have := hz.1 e; omega
    · rw [e]; rfl
theorem num_none {l : List Nd} {dep : List Int} {b y : Int} {mx : Bool} (hT : TF l dep) (hy : NumR l dep [] b mx y) : y ≠ 0 := by
  obtain ⟨es, hE, rfl⟩ := hy
  have h1 := hT.n1
  have := Go.Proofs.Ytdiljpnfochndaa.HP.zero_none hT hE (fun i _ => numF_3 _) (fun i hi hl => by unfold numF; simp) 0 (by omega)
  split
  · omega
  · exact this
theorem num_mono {l : List Nd} {dep S S' : List Int} {b y y' : Int} {mx : Bool} (hT : TF l dep) (hy : NumR l dep S' b mx y') (hy' : NumR l dep S b mx y) (hs : ∀ x ∈ S', x ∈ S) : y' = 0 → y = 0 := by
  obtain ⟨es, hE, rfl⟩ := hy
  obtain ⟨fs, hF, rfl⟩ := hy'
  have h1 := hT.n1
  have := Go.Proofs.Ytdiljpnfochndaa.HP.zero_mono hT hE hF (fun i _ => numF_3 _) (fun i _ => numF_3 _) (fun i hi hl => by
    unfold numF
    by_cases hc : S'.contains (i : Int)
    · have hc2 : S.contains (i : Int) = true := by simpa using hs _ (by simpa using hc)
      rw [if_pos hc, if_pos hc2]
      exact id
    · rw [if_neg hc]; intro e; simp at e) 0 (by omega)
  intro e
  split at e
  · omega
  · rw [this e]; rfl
end Go.Proofs.Ytdiljpnfochndaa
namespace Go.Proofs.Ytdiljpnfochndaa
open Go Go.RowKit Go.Proofs.Ytdiljpnfochndaa.VW
open Go.Proofs.Ytdiljpnfochndaa.HP (Nd kid wor leafB rd evB sg gameOf gameOf_TF TF TK ValP k_ tameM tame_TK SS subT subO srt_of SS_ord srS far)
attribute [local irreducible] W Ops OrdA VW.Ord OrdX
theorem bset_eq {bs : List Bool} {m : Nat} {b : Bool} (h : m < bs.length) : (bs.set m b).getD m false = b := by simp [List.getD_eq_getElem?_getD, h]
theorem bset_ne {bs : List Bool} {m k : Nat} {b : Bool} (h : m ≠ k) : (bs.set m b).getD k false = bs.getD k false := by simp [List.getD_eq_getElem?_getD, h]
/-- What the visited leaves decide. -/
theorem found_facts {l : List Nd} {dep vs : List Int} {S : List Int} {y z : Int} (hT : TF l dep) (hv : ValP l dep (wor l) vs) (hS : ∀ x ∈ (srS l dep l.length 0 (-far) far).2, x ∈ S) :
    (∀ us, ValP l dep (worstF l S) us → us.getD 0 0 = vs.getD 0 0) ∧ (NumR l dep S (vs.getD 0 0 + 1) true y → NumR l dep S (vs.getD 0 0 + 1) false z → y = -1 ∧ z = 0) := by
  have hn1 := hT.n1
  refine ⟨fun us hu => Go.Proofs.Ytdiljpnfochndaa.HP.search_other hT hv hu fun x hx => ?_, fun hy hz => ?_⟩
  · unfold worstF
    rw [if_pos (by simpa using hS x hx)]
  · have hf := num_facts hT hy hz
    obtain ⟨fs, hF, rfl⟩ := hz
    obtain ⟨us, hu⟩ := Go.Proofs.Ytdiljpnfochndaa.HP.val_ex hT (fun i => if S.contains i then wor l i else far)
    have e := Go.Proofs.Ytdiljpnfochndaa.HP.search_other hT hv hu fun x hx => by
      show (if S.contains x then wor l x else far) = wor l x
      rw [if_pos (by simpa using hS x hx)]
    have hz0 := Go.Proofs.Ytdiljpnfochndaa.HP.zero_F (b := vs.getD 0 0 + 1) hT hF hu (fun i _ => numF_3 _) (fun i hi hl hlt => by
      have hb := Go.Proofs.Ytdiljpnfochndaa.HP.val_bd hT hv (lo := -100) (hi := 100) (fun i hi _ => by have := hT.wor i hi; omega) 0 (by omega)
      have hlt' : (if S.contains (i : Int) then wor l i else far) < vs.getD 0 0 + 1 := hlt
      unfold numF
      by_cases hc : S.contains (i : Int)
      · rw [if_pos hc] at hlt' ⊢
        rw [if_pos (by rw [decide_eq_false (by omega)]; rfl)]
      · rw [if_neg hc] at hlt'
        have : far = 1099511627776 := rfl
        omega) 0 (by omega) (by omega)
    rw [hz0] at hf ⊢
    simp only [far] at hf ⊢
    have h0 : (if (1099511627776 : Int) ≤ 0 then (-1 : Int) else 0) = 0 := by decide
    rw [h0] at hf ⊢
    exact ⟨hf.2.1.1 rfl, rfl⟩
set_option maxHeartbeats 8000000 in
theorem foundLaw_c {w : World} {pv wv : Value} {ps ws : List Int} (hp : SlI w pv ps) (hw : SlI w wv ws) :
    Calls Try.prog 15 #[pv, wv] w (Ret fun r w' => r = .bool true ∧ Below w.heap.size w w') := by
  refine calls_W (vs := [_, _]) Try.func15 rfl (by kernel_rfl) rfl ?_
  (repeat (first | with_reducible refine W.seq ?_ | with_reducible refine Ops.nil ?_ | with_reducible refine W.region ?_ | refine z_p (kk := ?_) | refine z_a (kk := ?_) | refine z_y (kk := ?_) | refine z_n (kk := ?_) | refine z_u (kk := ?_) | with_reducible refine W.skip ?_ | with_reducible refine W.endb ?_ | with_reducible refine W.block ?_ | refine W.exit rfl ?_ | refine z_l (kk := ?_) | refine z_f (kk := ?_) | refine z_M (kk := ?_) | refine z_m (kk := ?_) | refine z_e (kk := ?_) | refine z_E (kk := ?_) | refine z_d (kk := ?_) | refine z_I (kk := fun _ => ?_) | refine z_J (kk := fun _ => ?_) | refine z_K (kk := fun _ => ?_) | refine z_L (kk := fun _ => ?_) | refine z_T (kk := ?_) | refine z_F (kk := ?_) | refine z_k (kk := fun _ _ _ _ _ => ?_) | refine z_w (kk := fun _ _ => ?_) | refine z_s (kk := fun _ _ _ _ => ?_) | refine z_D (kk := ?_) | refine z_g (kk := ?_) | refine z_h (kk := ?_)))
  refine Ops.call rfl rfl rfl rfl rfl (tame_c (most := 60) hp hw (by decide) (by decide)) (fun tv w1 hR => ?_)
  obtain ⟨hT1, hb1⟩ := hR
  have hTK := tame_TK (ps := ps) (ws := ws) (most := 60) (by decide) (by decide)
  generalize tameM ps ws 60 = l at *
  obtain ⟨dep, hg⟩ := hTK.game
  have hTF := gameOf_TF hg
  have hn1 := hTF.n1
  have hn60 := hTF.n60
  clear hp hw hTK
  obtain ⟨At, ct, rfl⟩ := hT1.sl
  (repeat (first | with_reducible refine W.seq ?_ | with_reducible refine Ops.nil ?_ | with_reducible refine W.region ?_ | refine z_p (kk := ?_) | refine z_a (kk := ?_) | refine z_y (kk := ?_) | refine z_n (kk := ?_) | refine z_u (kk := ?_) | with_reducible refine W.skip ?_ | with_reducible refine W.endb ?_ | with_reducible refine W.block ?_ | refine W.exit rfl ?_ | refine z_l (kk := ?_) | refine z_f (kk := ?_) | refine z_M (kk := ?_) | refine z_m (kk := ?_) | refine z_e (kk := ?_) | refine z_E (kk := ?_) | refine z_d (kk := ?_) | refine z_I (kk := fun _ => ?_) | refine z_J (kk := fun _ => ?_) | refine z_K (kk := fun _ => ?_) | refine z_L (kk := fun _ => ?_) | refine z_T (kk := ?_) | refine z_F (kk := ?_) | refine z_k (kk := fun _ _ _ _ _ => ?_) | refine z_w (kk := fun _ _ => ?_) | refine z_s (kk := fun _ _ _ _ => ?_) | refine z_D (kk := ?_) | refine z_g (kk := ?_) | refine z_h (kk := ?_)))
  refine Ops.call rfl rfl rfl rfl rfl (value_c hT1 (by omega)) (fun r w2 hR => ?_)
  obtain ⟨hb2, hR⟩ := hR
  rw [hg] at hR
  obtain ⟨vs, hvs, rfl⟩ := hR
  have hb02 := Below.via hb1 hb2
  have hT2 := hT1.below hb2
  (repeat (first | with_reducible refine W.seq ?_ | with_reducible refine Ops.nil ?_ | with_reducible refine W.region ?_ | refine z_p (kk := ?_) | refine z_a (kk := ?_) | refine z_y (kk := ?_) | refine z_n (kk := ?_) | refine z_u (kk := ?_) | with_reducible refine W.skip ?_ | with_reducible refine W.endb ?_ | with_reducible refine W.block ?_ | refine W.exit rfl ?_ | refine z_l (kk := ?_) | refine z_f (kk := ?_) | refine z_M (kk := ?_) | refine z_m (kk := ?_) | refine z_e (kk := ?_) | refine z_E (kk := ?_) | refine z_d (kk := ?_) | refine z_I (kk := fun _ => ?_) | refine z_J (kk := fun _ => ?_) | refine z_K (kk := fun _ => ?_) | refine z_L (kk := fun _ => ?_) | refine z_T (kk := ?_) | refine z_F (kk := ?_) | refine z_k (kk := fun _ _ _ _ _ => ?_) | refine z_w (kk := fun _ _ => ?_) | refine z_s (kk := fun _ _ _ _ => ?_) | refine z_D (kk := ?_) | refine z_g (kk := ?_) | refine z_h (kk := ?_)))
  refine Ops.call rfl rfl rfl rfl rfl (search_c hT2 (by omega)) (fun r w3 hR => ?_)
  obtain ⟨hb3, hR3⟩ := hR
  have hb03 := Below.via hb02 hb3
  have hT3 := hT2.below hb3
  unfold SearchR at hR3
  rw [hg] at hR3
  obtain ⟨sv, rfl, hI3⟩ := hR3
  have hvb := Go.Proofs.Ytdiljpnfochndaa.HP.val_bd hTF hvs (lo := -100) (hi := 100) (fun i hi _ => by have := hTF.wor i hi; omega) 0 (by omega)
  have hsv := Go.Proofs.Ytdiljpnfochndaa.HP.search_val hTF hvs
  have hgood := Go.Proofs.Ytdiljpnfochndaa.HP.srS_good hTF l.length 0 (-far) far (by omega)
  have hff := fun {S : List Int} {y z : Int} => found_facts (S := S) (y := y) (z := z) hTF hvs
  rw [hsv]
  have hv3 : SlI w3 sv _ := own_sl hI3.own
  generalize (srS l dep l.length 0 (-far) far).2 = V at *
  obtain ⟨Av, cv, rfl⟩ := Sl.sl hv3
  clear hI3 hT1 hT2 hsv
  (repeat (first | with_reducible refine W.seq ?_ | with_reducible refine Ops.nil ?_ | with_reducible refine W.region ?_ | refine z_p (kk := ?_) | refine z_a (kk := ?_) | refine z_y (kk := ?_) | refine z_n (kk := ?_) | refine z_u (kk := ?_) | with_reducible refine W.skip ?_ | with_reducible refine W.endb ?_ | with_reducible refine W.block ?_ | refine W.exit rfl ?_ | refine z_l (kk := ?_) | refine z_f (kk := ?_) | refine z_M (kk := ?_) | refine z_m (kk := ?_) | refine z_e (kk := ?_) | refine z_E (kk := ?_) | refine z_d (kk := ?_) | refine z_I (kk := fun _ => ?_) | refine z_J (kk := fun _ => ?_) | refine z_K (kk := fun _ => ?_) | refine z_L (kk := fun _ => ?_) | refine z_T (kk := ?_) | refine z_F (kk := ?_) | refine z_k (kk := fun _ _ _ _ _ => ?_) | refine z_w (kk := fun _ _ => ?_) | refine z_s (kk := fun _ _ _ _ => ?_) | refine z_D (kk := ?_) | refine z_g (kk := ?_) | refine z_h (kk := ?_)))
  refine W.condF rfl (by first | rfl | assumption | (simp only [bnf] <;> omega) | (simp only [*, bnf]; done) | fail) ?_
  (repeat (first | with_reducible refine W.seq ?_ | with_reducible refine Ops.nil ?_ | with_reducible refine W.region ?_ | refine z_p (kk := ?_) | refine z_a (kk := ?_) | refine z_y (kk := ?_) | refine z_n (kk := ?_) | refine z_u (kk := ?_) | with_reducible refine W.skip ?_ | with_reducible refine W.endb ?_ | with_reducible refine W.block ?_ | refine W.exit rfl ?_ | refine z_l (kk := ?_) | refine z_f (kk := ?_) | refine z_M (kk := ?_) | refine z_m (kk := ?_) | refine z_e (kk := ?_) | refine z_E (kk := ?_) | refine z_d (kk := ?_) | refine z_I (kk := fun _ => ?_) | refine z_J (kk := fun _ => ?_) | refine z_K (kk := fun _ => ?_) | refine z_L (kk := fun _ => ?_) | refine z_T (kk := ?_) | refine z_F (kk := ?_) | refine z_k (kk := fun _ _ _ _ _ => ?_) | refine z_w (kk := fun _ _ => ?_) | refine z_s (kk := fun _ _ _ _ => ?_) | refine z_D (kk := ?_) | refine z_g (kk := ?_) | refine z_h (kk := ?_)))
  have hVlen := hgood.len
  refine Ops.mkO (w0 := w3) Value.bool false rfl rfl rfl rfl rfl rfl rfl rfl rfl (by omega) rfl (Below.refl _ _) (fun w4 dr hO4 k4 _ => ?_)
  have hbs0 : ∀ k : Nat, k < l.length → ((List.replicate l.length false).getD k false = true ↔ (k : Int) ∈ V.take 0) := fun k hk => by simp [List.getD_eq_getElem?_getD, hk]
  have hbl0 : (List.replicate l.length false).length = l.length := by simp
  generalize List.replicate l.length false = bs0 at *
  rw [← hbl0] at hO4
  (repeat (first | with_reducible refine W.seq ?_ | with_reducible refine Ops.nil ?_ | with_reducible refine W.region ?_ | refine z_p (kk := ?_) | refine z_a (kk := ?_) | refine z_y (kk := ?_) | refine z_n (kk := ?_) | refine z_u (kk := ?_) | with_reducible refine W.skip ?_ | with_reducible refine W.endb ?_ | with_reducible refine W.block ?_ | refine W.exit rfl ?_ | refine z_l (kk := ?_) | refine z_f (kk := ?_) | refine z_M (kk := ?_) | refine z_m (kk := ?_) | refine z_e (kk := ?_) | refine z_E (kk := ?_) | refine z_d (kk := ?_) | refine z_I (kk := fun _ => ?_) | refine z_J (kk := fun _ => ?_) | refine z_K (kk := fun _ => ?_) | refine z_L (kk := fun _ => ?_) | refine z_T (kk := ?_) | refine z_F (kk := ?_) | refine z_k (kk := fun _ _ _ _ _ => ?_) | refine z_w (kk := fun _ _ => ?_) | refine z_s (kk := fun _ _ _ _ => ?_) | refine z_D (kk := ?_) | refine z_g (kk := ?_) | refine z_h (kk := ?_)))
  refine W.loop (fun m ρ w5 => ∃ (i : Nat) (bs : List Bool), m = V.length - i ∧ i ≤ V.length ∧ ρ = [(5, .slice At l.length ct), (6, .int .i64 (vs.getD 0 0)), (9, .slice Av V.length cv), (11, .slice (some ⟨dr, 0, none⟩) l.length l.length), (12, .int .i64 i)] ∧ OI 4 Value.bool w3 w5 (.slice (some ⟨dr, 0, none⟩) l.length l.length) bs ∧ bs.length = l.length ∧ ∀ k : Nat, k < l.length → (bs.getD k false = true ↔ (k : Int) ∈ V.take i))
    ⟨_, _, ⟨0, bs0, rfl, Nat.zero_le _, rfl, by rw [hbl0] at hO4; exact hO4, hbl0, hbs0⟩, (by repeat (first | exact trivial | refine And.intro rfl ?_))⟩ ?_
  clear hO4 hbs0 hbl0
  rintro m ρ w5 ⟨i, bs, rfl, hi, rfl, hO5, hbl, hbs⟩
  have hb5 := hO5.bel
  have hb05 := Below.via hb03 hb5
  (repeat (first | with_reducible refine W.seq ?_ | with_reducible refine Ops.nil ?_ | with_reducible refine W.region ?_ | refine z_p (kk := ?_) | refine z_a (kk := ?_) | refine z_y (kk := ?_) | refine z_n (kk := ?_) | refine z_u (kk := ?_) | with_reducible refine W.skip ?_ | with_reducible refine W.endb ?_ | with_reducible refine W.block ?_ | refine W.exit rfl ?_ | refine z_l (kk := ?_) | refine z_f (kk := ?_) | refine z_M (kk := ?_) | refine z_m (kk := ?_) | refine z_e (kk := ?_) | refine z_E (kk := ?_) | refine z_d (kk := ?_) | refine z_I (kk := fun _ => ?_) | refine z_J (kk := fun _ => ?_) | refine z_K (kk := fun _ => ?_) | refine z_L (kk := fun _ => ?_) | refine z_T (kk := ?_) | refine z_F (kk := ?_) | refine z_k (kk := fun _ _ _ _ _ => ?_) | refine z_w (kk := fun _ _ => ?_) | refine z_s (kk := fun _ _ _ _ => ?_) | refine z_D (kk := ?_) | refine z_g (kk := ?_) | refine z_h (kk := ?_)))
  (first | refine W.condD rfl (fun hc => ?_) (fun hc => ?_) | refine W.condE rfl (fun hc => ?_) (fun hc => ?_) | refine W.condN rfl (fun hc => ?_) (fun hc => ?_) | refine W.cond rfl (fun hc => ?_) (fun hc => ?_))
  · have hiV : i < V.length := by omega
    obtain ⟨m, hm⟩ : ∃ m : Nat, V.getD i 0 = m := by
      have := hgood.mem _ (Go.Proofs.Ytdiljpnfochndaa.HP.getD_mem hiV)
      exact ⟨(V.getD i 0).toNat, by omega⟩
    have hmem := hgood.mem _ (Go.Proofs.Ytdiljpnfochndaa.HP.getD_mem hiV)
    rw [hm] at hmem
    have hml : m < l.length := by omega
    have hleaf := hmem.2.2.1
    have hkl0 : (kid l m).length = 0 := by
      rw [leafB_len] at hleaf
      simpa using hleaf
    have hnew : bs.getD m false = false := by
      have h1 : ¬ (m : Int) ∈ V.take i := fun h => by
        obtain ⟨q, hq, e⟩ := Go.Proofs.Ytdiljpnfochndaa.HP.mem_getD h
        rw [List.length_take] at hq
        have e2 : V.getD q 0 = V.getD i 0 := by
          rw [hm, ← e]
          simp [List.getD_eq_getElem?_getD, List.getElem?_take, show q < i by omega]
        have := Go.Proofs.Ytdiljpnfochndaa.HP.getD_inj hgood.nd (show q < V.length by omega) hiV e2
        omega
      rw [← hbs m hml] at h1
      simpa using h1
    have hsb : SlB w5 (.slice (some ⟨dr, 0, none⟩) l.length l.length) bs := hO5.sl
    (repeat (first | with_reducible refine W.seq ?_ | with_reducible refine Ops.nil ?_ | with_reducible refine W.region ?_ | refine z_p (kk := ?_) | refine z_a (kk := ?_) | refine z_y (kk := ?_) | refine z_n (kk := ?_) | refine z_u (kk := ?_) | with_reducible refine W.skip ?_ | with_reducible refine W.endb ?_ | with_reducible refine W.block ?_ | refine W.exit rfl ?_ | refine z_l (kk := ?_) | refine z_f (kk := ?_) | refine z_M (kk := ?_) | refine z_m (kk := ?_) | refine z_e (kk := ?_) | refine z_E (kk := ?_) | refine z_d (kk := ?_) | refine z_I (kk := fun _ => ?_) | refine z_J (kk := fun _ => ?_) | refine z_K (kk := fun _ => ?_) | refine z_L (kk := fun _ => ?_) | refine z_T (kk := ?_) | refine z_F (kk := ?_) | refine z_k (kk := fun _ _ _ _ _ => ?_) | refine z_w (kk := fun _ _ => ?_) | refine z_s (kk := fun _ _ _ _ => ?_) | refine z_D (kk := ?_) | refine z_g (kk := ?_) | refine z_h (kk := ?_)))
    simp only [hm]
    (repeat (first | with_reducible refine W.seq ?_ | with_reducible refine Ops.nil ?_ | with_reducible refine W.region ?_ | refine z_p (kk := ?_) | refine z_a (kk := ?_) | refine z_y (kk := ?_) | refine z_n (kk := ?_) | refine z_u (kk := ?_) | with_reducible refine W.skip ?_ | with_reducible refine W.endb ?_ | with_reducible refine W.block ?_ | refine W.exit rfl ?_ | refine z_l (kk := ?_) | refine z_f (kk := ?_) | refine z_M (kk := ?_) | refine z_m (kk := ?_) | refine z_e (kk := ?_) | refine z_E (kk := ?_) | refine z_d (kk := ?_) | refine z_I (kk := fun _ => ?_) | refine z_J (kk := fun _ => ?_) | refine z_K (kk := fun _ => ?_) | refine z_L (kk := fun _ => ?_) | refine z_T (kk := ?_) | refine z_F (kk := ?_) | refine z_k (kk := fun _ _ _ _ _ => ?_) | refine z_w (kk := fun _ _ => ?_) | refine z_s (kk := fun _ _ _ _ => ?_) | refine z_D (kk := ?_) | refine z_g (kk := ?_) | refine z_h (kk := ?_)))
    refine W.condF rfl (by first | rfl | assumption | (simp only [bnf] <;> omega) | (simp only [*, bnf]; done) | fail) ?_
    (repeat (first | with_reducible refine W.seq ?_ | with_reducible refine Ops.nil ?_ | with_reducible refine W.region ?_ | refine z_p (kk := ?_) | refine z_a (kk := ?_) | refine z_y (kk := ?_) | refine z_n (kk := ?_) | refine z_u (kk := ?_) | with_reducible refine W.skip ?_ | with_reducible refine W.endb ?_ | with_reducible refine W.block ?_ | refine W.exit rfl ?_ | refine z_l (kk := ?_) | refine z_f (kk := ?_) | refine z_M (kk := ?_) | refine z_m (kk := ?_) | refine z_e (kk := ?_) | refine z_E (kk := ?_) | refine z_d (kk := ?_) | refine z_I (kk := fun _ => ?_) | refine z_J (kk := fun _ => ?_) | refine z_K (kk := fun _ => ?_) | refine z_L (kk := fun _ => ?_) | refine z_T (kk := ?_) | refine z_F (kk := ?_) | refine z_k (kk := fun _ _ _ _ _ => ?_) | refine z_w (kk := fun _ _ => ?_) | refine z_s (kk := fun _ _ _ _ => ?_) | refine z_D (kk := ?_) | refine z_g (kk := ?_) | refine z_h (kk := ?_)))
    refine Ops.wrO (i := m) (u := true) (enc := Value.bool) rfl rfl rfl rfl rfl rfl rfl rfl rfl rfl rfl rfl (by simp) rfl hO5 (by omega) (fun w6 _ hO6 k6 _ => ?_)
    (repeat (first | with_reducible refine W.seq ?_ | with_reducible refine Ops.nil ?_ | with_reducible refine W.region ?_ | refine z_p (kk := ?_) | refine z_a (kk := ?_) | refine z_y (kk := ?_) | refine z_n (kk := ?_) | refine z_u (kk := ?_) | with_reducible refine W.skip ?_ | with_reducible refine W.endb ?_ | with_reducible refine W.block ?_ | refine W.exit rfl ?_ | refine z_l (kk := ?_) | refine z_f (kk := ?_) | refine z_M (kk := ?_) | refine z_m (kk := ?_) | refine z_e (kk := ?_) | refine z_E (kk := ?_) | refine z_d (kk := ?_) | refine z_I (kk := fun _ => ?_) | refine z_J (kk := fun _ => ?_) | refine z_K (kk := fun _ => ?_) | refine z_L (kk := fun _ => ?_) | refine z_T (kk := ?_) | refine z_F (kk := ?_) | refine z_k (kk := fun _ _ _ _ _ => ?_) | refine z_w (kk := fun _ _ => ?_) | refine z_s (kk := fun _ _ _ _ => ?_) | refine z_D (kk := ?_) | refine z_g (kk := ?_) | refine z_h (kk := ?_)))
    refine W.endl ⟨_, _, ⟨⟨i + 1, _, rfl, by omega, rfl, hO6, by rw [List.length_set]; exact hbl, fun k hk => ?_⟩, by omega⟩, (by repeat (first | exact trivial | refine And.intro rfl ?_))⟩
    rw [Go.Proofs.Ytdiljpnfochndaa.HP.take_snoc _ _ hiV, hm, List.mem_append, ← hbs k hk]
    by_cases e : k = m
    · subst e
      rw [bset_eq (by omega)]
      simp
    · rw [bset_ne (by omega)]
      simp
      omega
  · have hiV : i = V.length := by omega
    subst hiV
    rw [List.take_length] at hbs
    have hsb : SlB w5 (.slice (some ⟨dr, 0, none⟩) l.length l.length) bs := hO5.sl
    have hT5 := hT3.below hb5
    clear hO5
    (repeat (first | with_reducible refine W.seq ?_ | with_reducible refine Ops.nil ?_ | with_reducible refine W.region ?_ | refine z_p (kk := ?_) | refine z_a (kk := ?_) | refine z_y (kk := ?_) | refine z_n (kk := ?_) | refine z_u (kk := ?_) | with_reducible refine W.skip ?_ | with_reducible refine W.endb ?_ | with_reducible refine W.block ?_ | refine W.exit rfl ?_ | refine z_l (kk := ?_) | refine z_f (kk := ?_) | refine z_M (kk := ?_) | refine z_m (kk := ?_) | refine z_e (kk := ?_) | refine z_E (kk := ?_) | refine z_d (kk := ?_) | refine z_I (kk := fun _ => ?_) | refine z_J (kk := fun _ => ?_) | refine z_K (kk := fun _ => ?_) | refine z_L (kk := fun _ => ?_) | refine z_T (kk := ?_) | refine z_F (kk := ?_) | refine z_k (kk := fun _ _ _ _ _ => ?_) | refine z_w (kk := fun _ _ => ?_) | refine z_s (kk := fun _ _ _ _ => ?_) | refine z_D (kk := ?_) | refine z_g (kk := ?_) | refine z_h (kk := ?_)))
    refine W.loop (fun m ρ w6 => ∃ (i : Nat) (lv : Value), m = l.length - i ∧ i ≤ l.length ∧ ρ = [(5, .slice At l.length ct), (6, .int .i64 (vs.getD 0 0)), (11, .slice (some ⟨dr, 0, none⟩) l.length l.length), (14, lv), (15, .int .i64 i)] ∧ OI 3 (Value.int .i64) w5 w6 lv (pickL (fun i => bs.getD i false) i))
      ⟨_, _, ⟨0, _, rfl, Nat.zero_le _, rfl, OI.nil (Below.refl _ _)⟩, (by repeat (first | exact trivial | refine And.intro rfl ?_))⟩ ?_
    rintro m ρ w6 ⟨i, lv, rfl, hi, rfl, hL⟩
    have hb56 := hL.bel
    have hs6 := pickL_succ (fun i => bs.getD i false) i
    have hpl := pickL_len (fun i => bs.getD i false) i
    (repeat (first | with_reducible refine W.seq ?_ | with_reducible refine Ops.nil ?_ | with_reducible refine W.region ?_ | refine z_p (kk := ?_) | refine z_a (kk := ?_) | refine z_y (kk := ?_) | refine z_n (kk := ?_) | refine z_u (kk := ?_) | with_reducible refine W.skip ?_ | with_reducible refine W.endb ?_ | with_reducible refine W.block ?_ | refine W.exit rfl ?_ | refine z_l (kk := ?_) | refine z_f (kk := ?_) | refine z_M (kk := ?_) | refine z_m (kk := ?_) | refine z_e (kk := ?_) | refine z_E (kk := ?_) | refine z_d (kk := ?_) | refine z_I (kk := fun _ => ?_) | refine z_J (kk := fun _ => ?_) | refine z_K (kk := fun _ => ?_) | refine z_L (kk := fun _ => ?_) | refine z_T (kk := ?_) | refine z_F (kk := ?_) | refine z_k (kk := fun _ _ _ _ _ => ?_) | refine z_w (kk := fun _ _ => ?_) | refine z_s (kk := fun _ _ _ _ => ?_) | refine z_D (kk := ?_) | refine z_g (kk := ?_) | refine z_h (kk := ?_)))
    (first | refine W.condD rfl (fun hc => ?_) (fun hc => ?_) | refine W.condE rfl (fun hc => ?_) (fun hc => ?_) | refine W.condN rfl (fun hc => ?_) (fun hc => ?_) | refine W.cond rfl (fun hc => ?_) (fun hc => ?_))
    · have hil : i < l.length := by omega
      (repeat (first | with_reducible refine W.seq ?_ | with_reducible refine Ops.nil ?_ | with_reducible refine W.region ?_ | refine z_p (kk := ?_) | refine z_a (kk := ?_) | refine z_y (kk := ?_) | refine z_n (kk := ?_) | refine z_u (kk := ?_) | with_reducible refine W.skip ?_ | with_reducible refine W.endb ?_ | with_reducible refine W.block ?_ | refine W.exit rfl ?_ | refine z_l (kk := ?_) | refine z_f (kk := ?_) | refine z_M (kk := ?_) | refine z_m (kk := ?_) | refine z_e (kk := ?_) | refine z_E (kk := ?_) | refine z_d (kk := ?_) | refine z_I (kk := fun _ => ?_) | refine z_J (kk := fun _ => ?_) | refine z_K (kk := fun _ => ?_) | refine z_L (kk := fun _ => ?_) | refine z_T (kk := ?_) | refine z_F (kk := ?_) | refine z_k (kk := fun _ _ _ _ _ => ?_) | refine z_w (kk := fun _ _ => ?_) | refine z_s (kk := fun _ _ _ _ => ?_) | refine z_D (kk := ?_) | refine z_g (kk := ?_) | refine z_h (kk := ?_)))
      cases hbi : bs.getD i false with
      | true =>
        simp only [hbi] at hs6
        refine W.condT rfl (by first | rfl | assumption | (simp only [bnf] <;> omega) | (simp only [*, bnf]; done) | fail) ?_
        (repeat (first | with_reducible refine W.seq ?_ | with_reducible refine Ops.nil ?_ | with_reducible refine W.region ?_ | refine z_p (kk := ?_) | refine z_a (kk := ?_) | refine z_y (kk := ?_) | refine z_n (kk := ?_) | refine z_u (kk := ?_) | with_reducible refine W.skip ?_ | with_reducible refine W.endb ?_ | with_reducible refine W.block ?_ | refine W.exit rfl ?_ | refine z_l (kk := ?_) | refine z_f (kk := ?_) | refine z_M (kk := ?_) | refine z_m (kk := ?_) | refine z_e (kk := ?_) | refine z_E (kk := ?_) | refine z_d (kk := ?_) | refine z_I (kk := fun _ => ?_) | refine z_J (kk := fun _ => ?_) | refine z_K (kk := fun _ => ?_) | refine z_L (kk := fun _ => ?_) | refine z_T (kk := ?_) | refine z_F (kk := ?_) | refine z_k (kk := fun _ _ _ _ _ => ?_) | refine z_w (kk := fun _ _ => ?_) | refine z_s (kk := fun _ _ _ _ => ?_) | refine z_D (kk := ?_) | refine z_g (kk := ?_) | refine z_h (kk := ?_)))
        refine Ops.pushO (enc := Value.int .i64) rfl rfl rfl rfl rfl rfl rfl rfl rfl rfl rfl rfl (fun _ => rfl) rfl hL (by omega) (fun lv' _ w7 hL7 k7 hn7 => ?_)
        (repeat (first | with_reducible refine W.seq ?_ | with_reducible refine Ops.nil ?_ | with_reducible refine W.region ?_ | refine z_p (kk := ?_) | refine z_a (kk := ?_) | refine z_y (kk := ?_) | refine z_n (kk := ?_) | refine z_u (kk := ?_) | with_reducible refine W.skip ?_ | with_reducible refine W.endb ?_ | with_reducible refine W.block ?_ | refine W.exit rfl ?_ | refine z_l (kk := ?_) | refine z_f (kk := ?_) | refine z_M (kk := ?_) | refine z_m (kk := ?_) | refine z_e (kk := ?_) | refine z_E (kk := ?_) | refine z_d (kk := ?_) | refine z_I (kk := fun _ => ?_) | refine z_J (kk := fun _ => ?_) | refine z_K (kk := fun _ => ?_) | refine z_L (kk := fun _ => ?_) | refine z_T (kk := ?_) | refine z_F (kk := ?_) | refine z_k (kk := fun _ _ _ _ _ => ?_) | refine z_w (kk := fun _ _ => ?_) | refine z_s (kk := fun _ _ _ _ => ?_) | refine z_D (kk := ?_) | refine z_g (kk := ?_) | refine z_h (kk := ?_)))
        exact W.endl ⟨_, _, ⟨⟨i + 1, _, rfl, by omega, rfl, by rw [hs6]; exact hL7⟩, by omega⟩, (by repeat (first | exact trivial | refine And.intro rfl ?_))⟩
      | false =>
        simp only [hbi] at hs6
        refine W.condF rfl (by first | rfl | assumption | (simp only [bnf] <;> omega) | (simp only [*, bnf]; done) | fail) ?_
        (repeat (first | with_reducible refine W.seq ?_ | with_reducible refine Ops.nil ?_ | with_reducible refine W.region ?_ | refine z_p (kk := ?_) | refine z_a (kk := ?_) | refine z_y (kk := ?_) | refine z_n (kk := ?_) | refine z_u (kk := ?_) | with_reducible refine W.skip ?_ | with_reducible refine W.endb ?_ | with_reducible refine W.block ?_ | refine W.exit rfl ?_ | refine z_l (kk := ?_) | refine z_f (kk := ?_) | refine z_M (kk := ?_) | refine z_m (kk := ?_) | refine z_e (kk := ?_) | refine z_E (kk := ?_) | refine z_d (kk := ?_) | refine z_I (kk := fun _ => ?_) | refine z_J (kk := fun _ => ?_) | refine z_K (kk := fun _ => ?_) | refine z_L (kk := fun _ => ?_) | refine z_T (kk := ?_) | refine z_F (kk := ?_) | refine z_k (kk := fun _ _ _ _ _ => ?_) | refine z_w (kk := fun _ _ => ?_) | refine z_s (kk := fun _ _ _ _ => ?_) | refine z_D (kk := ?_) | refine z_g (kk := ?_) | refine z_h (kk := ?_)))
        exact W.endl ⟨_, _, ⟨⟨i + 1, _, rfl, by omega, rfl, by rw [hs6]; simpa using hL⟩, by omega⟩, (by repeat (first | exact trivial | refine And.intro rfl ?_))⟩
    have hil : i = l.length := by omega
    subst hil
    have hV' : ∀ x ∈ V, x ∈ pickL (fun i => bs.getD i false) l.length := fun x hx => by
      have := hgood.mem x hx
      exact pickL_mem.2 ⟨x.toNat, by omega, by rw [hbs x.toNat (by omega), Int.toNat_of_nonneg (by omega)]; exact hx, by omega⟩
    have hls : Listed l (pickL (fun i => bs.getD i false) l.length) := pickL_listed fun i hi h => by
      have h2 := (hbs i hi).1 h
      exact (hgood.mem _ h2).2.2.1
    have hls6 : SlI w6 lv _ := hL.sl
    have hb06 := Below.via hb05 hb56
    have hT6 := hT5.below hb56
    obtain ⟨hf1, hf2⟩ := hff (S := pickL (fun i => bs.getD i false) l.length) (y := 0) (z := 0) hV'
    have hf2 := fun {y z} => (hff (S := pickL (fun i => bs.getD i false) l.length) (y := y) (z := z) hV').2
    generalize pickL (fun i => bs.getD i false) l.length = S at *
    obtain ⟨As, cs, rfl⟩ := Sl.sl hls6
    clear hff hL hV' hgood hsb hbs hT3 hT5
    (repeat (first | with_reducible refine W.seq ?_ | with_reducible refine Ops.nil ?_ | with_reducible refine W.region ?_ | refine z_p (kk := ?_) | refine z_a (kk := ?_) | refine z_y (kk := ?_) | refine z_n (kk := ?_) | refine z_u (kk := ?_) | with_reducible refine W.skip ?_ | with_reducible refine W.endb ?_ | with_reducible refine W.block ?_ | refine W.exit rfl ?_ | refine z_l (kk := ?_) | refine z_f (kk := ?_) | refine z_M (kk := ?_) | refine z_m (kk := ?_) | refine z_e (kk := ?_) | refine z_E (kk := ?_) | refine z_d (kk := ?_) | refine z_I (kk := fun _ => ?_) | refine z_J (kk := fun _ => ?_) | refine z_K (kk := fun _ => ?_) | refine z_L (kk := fun _ => ?_) | refine z_T (kk := ?_) | refine z_F (kk := ?_) | refine z_k (kk := fun _ _ _ _ _ => ?_) | refine z_w (kk := fun _ _ => ?_) | refine z_s (kk := fun _ _ _ _ => ?_) | refine z_D (kk := ?_) | refine z_g (kk := ?_) | refine z_h (kk := ?_)))
    refine Ops.call rfl rfl rfl rfl rfl (decides_c hT6 (by omega) hls6) (fun r w7 hR => ?_)
    obtain ⟨hb7, hR⟩ := hR
    have hb07 := Below.via hb06 hb7
    have hT7 := hT6.below hb7
    have hls7 := Sl.below hls6 hb7
    unfold DecR at hR
    rw [if_pos ⟨hls, by omega⟩, hg] at hR
    obtain ⟨us, hus, rfl⟩ := hR
    rw [hf1 us hus, decide_eq_true (Int.le_refl _)]
    clear hT6 hls6
    (repeat (first | with_reducible refine W.seq ?_ | with_reducible refine Ops.nil ?_ | with_reducible refine W.region ?_ | refine z_p (kk := ?_) | refine z_a (kk := ?_) | refine z_y (kk := ?_) | refine z_n (kk := ?_) | refine z_u (kk := ?_) | with_reducible refine W.skip ?_ | with_reducible refine W.endb ?_ | with_reducible refine W.block ?_ | refine W.exit rfl ?_ | refine z_l (kk := ?_) | refine z_f (kk := ?_) | refine z_M (kk := ?_) | refine z_m (kk := ?_) | refine z_e (kk := ?_) | refine z_E (kk := ?_) | refine z_d (kk := ?_) | refine z_I (kk := fun _ => ?_) | refine z_J (kk := fun _ => ?_) | refine z_K (kk := fun _ => ?_) | refine z_L (kk := fun _ => ?_) | refine z_T (kk := ?_) | refine z_F (kk := ?_) | refine z_k (kk := fun _ _ _ _ _ => ?_) | refine z_w (kk := fun _ _ => ?_) | refine z_s (kk := fun _ _ _ _ => ?_) | refine z_D (kk := ?_) | refine z_g (kk := ?_) | refine z_h (kk := ?_)))
    refine Ops.call rfl rfl rfl rfl rfl (decides_c hT7 (by omega) hls7) (fun r w8 hR => ?_)
    obtain ⟨hb8, hR⟩ := hR
    have hb08 := Below.via hb07 hb8
    have hT8 := hT7.below hb8
    have hls8 := Sl.below hls7 hb8
    unfold DecR at hR
    rw [if_pos ⟨hls, by omega⟩, hg] at hR
    obtain ⟨us', hus', rfl⟩ := hR
    rw [hf1 us' hus', decide_eq_false (by omega)]
    clear hT7 hls7
    (repeat (first | with_reducible refine W.seq ?_ | with_reducible refine Ops.nil ?_ | with_reducible refine W.region ?_ | refine z_p (kk := ?_) | refine z_a (kk := ?_) | refine z_y (kk := ?_) | refine z_n (kk := ?_) | refine z_u (kk := ?_) | with_reducible refine W.skip ?_ | with_reducible refine W.endb ?_ | with_reducible refine W.block ?_ | refine W.exit rfl ?_ | refine z_l (kk := ?_) | refine z_f (kk := ?_) | refine z_M (kk := ?_) | refine z_m (kk := ?_) | refine z_e (kk := ?_) | refine z_E (kk := ?_) | refine z_d (kk := ?_) | refine z_I (kk := fun _ => ?_) | refine z_J (kk := fun _ => ?_) | refine z_K (kk := fun _ => ?_) | refine z_L (kk := fun _ => ?_) | refine z_T (kk := ?_) | refine z_F (kk := ?_) | refine z_k (kk := fun _ _ _ _ _ => ?_) | refine z_w (kk := fun _ _ => ?_) | refine z_s (kk := fun _ _ _ _ => ?_) | refine z_D (kk := ?_) | refine z_g (kk := ?_) | refine z_h (kk := ?_)))
    refine Ops.call rfl rfl rfl rfl rfl (numbers_c hT8 (by omega) hls8) (fun r w9 hR => ?_)
    obtain ⟨hb9, hR⟩ := hR
    have hb09 := Below.via hb08 hb9
    have hT9 := hT8.below hb9
    unfold NumbersR at hR
    rw [if_pos ⟨hls, by omega⟩, hg] at hR
    obtain ⟨y, z, hy, hz, rfl⟩ := hR
    obtain ⟨rfl, rfl⟩ := hf2 hy hz
    clear hT8 hls8 hf1 hf2
    (repeat (first | with_reducible refine W.seq ?_ | with_reducible refine Ops.nil ?_ | with_reducible refine W.region ?_ | refine z_p (kk := ?_) | refine z_a (kk := ?_) | refine z_y (kk := ?_) | refine z_n (kk := ?_) | refine z_u (kk := ?_) | with_reducible refine W.skip ?_ | with_reducible refine W.endb ?_ | with_reducible refine W.block ?_ | refine W.exit rfl ?_ | refine z_l (kk := ?_) | refine z_f (kk := ?_) | refine z_M (kk := ?_) | refine z_m (kk := ?_) | refine z_e (kk := ?_) | refine z_E (kk := ?_) | refine z_d (kk := ?_) | refine z_I (kk := fun _ => ?_) | refine z_J (kk := fun _ => ?_) | refine z_K (kk := fun _ => ?_) | refine z_L (kk := fun _ => ?_) | refine z_T (kk := ?_) | refine z_F (kk := ?_) | refine z_k (kk := fun _ _ _ _ _ => ?_) | refine z_w (kk := fun _ _ => ?_) | refine z_s (kk := fun _ _ _ _ => ?_) | refine z_D (kk := ?_) | refine z_g (kk := ?_) | refine z_h (kk := ?_)))
    refine Ops.call rfl rfl rfl rfl rfl (sorted_c hT9 (by omega)) (fun r w10 hR => ?_)
    obtain ⟨hb10, hR⟩ := hR
    have hb010 := Below.via hb09 hb10
    unfold SortR at hR
    rw [hg] at hR
    obtain ⟨vs2, ov, cvs, hvs2, rfl, hQ⟩ := hR
    obtain rfl := hvs2.uniq hTF hvs
    have hS10 := hQ.treeM
    have hsrt := srt_of (SS_ord l dep vs2) hTF
    have hsT := hsrt.tk (SS_ord l dep vs2) hTF
    change Go.Proofs.Ytdiljpnfochndaa.HP.SrtT _ l (sortM l dep vs2) _ at hsrt
    change TK (sortM l dep vs2) at hsT
    obtain ⟨dep', hg'⟩ := hsT.game
    have hTF' := gameOf_TF hg'
    obtain ⟨vs', hvs'⟩ := Go.Proofs.Ytdiljpnfochndaa.HP.val_ex hTF' (wor (sortM l dep vs2))
    have hn := hsrt.n
    have hval := hsrt.val (SS_ord l dep vs2) hTF hTF' hvs hvs' 0 (by omega)
    rw [hsrt.hd] at hval
    replace hval : vs'.getD 0 0 = vs2.getD 0 0 := hval
    have hsv := Go.Proofs.Ytdiljpnfochndaa.HP.search_val hTF' hvs'
    rw [hval] at hsv
    obtain ⟨As', cs', rfl⟩ := hS10.sl
    clear hsrt hQ hval hT9
    (repeat (first | with_reducible refine W.seq ?_ | with_reducible refine Ops.nil ?_ | with_reducible refine W.region ?_ | refine z_p (kk := ?_) | refine z_a (kk := ?_) | refine z_y (kk := ?_) | refine z_n (kk := ?_) | refine z_u (kk := ?_) | with_reducible refine W.skip ?_ | with_reducible refine W.endb ?_ | with_reducible refine W.block ?_ | refine W.exit rfl ?_ | refine z_l (kk := ?_) | refine z_f (kk := ?_) | refine z_M (kk := ?_) | refine z_m (kk := ?_) | refine z_e (kk := ?_) | refine z_E (kk := ?_) | refine z_d (kk := ?_) | refine z_I (kk := fun _ => ?_) | refine z_J (kk := fun _ => ?_) | refine z_K (kk := fun _ => ?_) | refine z_L (kk := fun _ => ?_) | refine z_T (kk := ?_) | refine z_F (kk := ?_) | refine z_k (kk := fun _ _ _ _ _ => ?_) | refine z_w (kk := fun _ _ => ?_) | refine z_s (kk := fun _ _ _ _ => ?_) | refine z_D (kk := ?_) | refine z_g (kk := ?_) | refine z_h (kk := ?_)))
    refine Ops.call rfl rfl rfl rfl rfl (search_c hS10 (by omega)) (fun r w11 hR => ?_)
    obtain ⟨hb11, hR⟩ := hR
    have hb011 := Below.via hb010 hb11
    unfold SearchR at hR
    rw [hg'] at hR
    obtain ⟨sv2, rfl, _⟩ := hR
    rw [hsv]
    (repeat (first | with_reducible refine W.seq ?_ | with_reducible refine Ops.nil ?_ | with_reducible refine W.region ?_ | refine z_p (kk := ?_) | refine z_a (kk := ?_) | refine z_y (kk := ?_) | refine z_n (kk := ?_) | refine z_u (kk := ?_) | with_reducible refine W.skip ?_ | with_reducible refine W.endb ?_ | with_reducible refine W.block ?_ | refine W.exit rfl ?_ | refine z_l (kk := ?_) | refine z_f (kk := ?_) | refine z_M (kk := ?_) | refine z_m (kk := ?_) | refine z_e (kk := ?_) | refine z_E (kk := ?_) | refine z_d (kk := ?_) | refine z_I (kk := fun _ => ?_) | refine z_J (kk := fun _ => ?_) | refine z_K (kk := fun _ => ?_) | refine z_L (kk := fun _ => ?_) | refine z_T (kk := ?_) | refine z_F (kk := ?_) | refine z_k (kk := fun _ _ _ _ _ => ?_) | refine z_w (kk := fun _ _ => ?_) | refine z_s (kk := fun _ _ _ _ => ?_) | refine z_D (kk := ?_) | refine z_g (kk := ?_) | refine z_h (kk := ?_)))
    refine Ops.call rfl rfl rfl rfl rfl (awake_c _) (fun r w12 hR => ?_)
    obtain ⟨rfl, hb12⟩ := hR
    (repeat (first | with_reducible refine W.seq ?_ | with_reducible refine Ops.nil ?_ | with_reducible refine W.region ?_ | refine z_p (kk := ?_) | refine z_a (kk := ?_) | refine z_y (kk := ?_) | refine z_n (kk := ?_) | refine z_u (kk := ?_) | with_reducible refine W.skip ?_ | with_reducible refine W.endb ?_ | with_reducible refine W.block ?_ | refine W.exit rfl ?_ | refine z_l (kk := ?_) | refine z_f (kk := ?_) | refine z_M (kk := ?_) | refine z_m (kk := ?_) | refine z_e (kk := ?_) | refine z_E (kk := ?_) | refine z_d (kk := ?_) | refine z_I (kk := fun _ => ?_) | refine z_J (kk := fun _ => ?_) | refine z_K (kk := fun _ => ?_) | refine z_L (kk := fun _ => ?_) | refine z_T (kk := ?_) | refine z_F (kk := ?_) | refine z_k (kk := fun _ _ _ _ _ => ?_) | refine z_w (kk := fun _ _ => ?_) | refine z_s (kk := fun _ _ _ _ => ?_) | refine z_D (kk := ?_) | refine z_g (kk := ?_) | refine z_h (kk := ?_)))
    exact W.fret rfl ⟨rfl, Below.via hb011 hb12⟩
end Go.Proofs.Ytdiljpnfochndaa
/- Arguments as the walks read them. -/
namespace Go.Proofs.Ytdiljpnfochndaa.VW
open Go Go.RowKit
theorem sl_open {w : World} {x : Addr} {len cap : Nat} {zs : List Int} (hl : len ≤ cap) (hm : cap ≤ maxLen) (hz : zs.length = cap) (hc : ∀ i, i < zs.length → w.cell? (x.add i) = some (.int .i64 (zs.getD i 0))) : SlI w (.slice (some x) len cap) (zs.take len) := by
  have hlen : (zs.take len).length = len := by rw [List.length_take]; omega
  refine ⟨by rw [hlen]; simp only [maxLen] at hm; omega, some x, cap, by rw [hlen], fun _ => ⟨x, rfl, fun j hj => ?_⟩⟩
  rw [hlen] at hj
  rw [hc j (by omega)]
  simp [List.getD_eq_getElem?_getD, List.getElem?_take, hj]
end Go.Proofs.Ytdiljpnfochndaa.VW
/- Trees and lists among the arguments. -/
namespace Go.Proofs.Ytdiljpnfochndaa
open Go Go.RowKit Go.ChangeShapes Go.Proofs.Ytdiljpnfochndaa.VW
open Go.Proofs.Ytdiljpnfochndaa.HP (Nd kid wor)
theorem arg_open {w : World} {x : Addr} {len cap : Nat} {zs : List Int} (hl : len ≤ cap) (hm : cap ≤ maxLen) (hz : zs.length = cap) (hc : ∀ i, i < zs.length → w.cell? (x.add i) = some (.int .i64 (zs.getD i 0))) : Arg w (.slice (some x) len cap) (zs.take len) := by
  have hlen : (zs.take len).length = len := by rw [List.length_take]; omega
  exact ⟨sl_open hl hm hz hc, some x, cap, by rw [hlen], by omega⟩
theorem ints_arg {H : Type} {enc : TypeId × Value → H} {P : Program} {W : World} {t e : TypeId} {fuel : Nat} {v : Value} {x : DataW H × List MemPlace} (ht : P.underlying t = some (.slice e)) (he : P.underlying e = some (.int .i64)) (hc : P.cellsOf e = 1)
    (h : DataW.trod enc P W 0 (fun _ => true) true fuel t [v] = some x) : ∃ zs, Arg W v zs := by
  rcases open_ints ht he hc h with ⟨hcs, _⟩ | ⟨x, l, c, zs, hcs, _, hl, hm, hz, _, hcell, hwz⟩
  · simp at hcs
    subst hcs
    exact ⟨[], Sl.nil _ _ _ _ _, none, 0, rfl, Nat.le_refl _⟩
  · simp at hcs
    subst hcs
    exact ⟨_, arg_open hl hm (by simpa using hz) hcell⟩
theorem moves_arg {H : Type} {enc : TypeId × Value → H} {P : Program} {W : World} {t m s e : TypeId} {fuel : Nat} {v : Value} {x : DataW H × List MemPlace} {fs : Array Field} {f0 f1 : Field} (ht : P.underlying t = some (.slice m)) (hm : P.underlying m = some (.struct fs)) (hcm : P.cellsOf m = 2)
    (h0 : fs[0]? = some f0) (h1 : fs[1]? = some f1) (o0 : f0.offset = 0) (o1 : f1.offset = 1) (t0 : f0.type = s) (t1 : f1.type = e) (hs : P.underlying s = some (.slice e)) (he : P.underlying e = some (.int .i64)) (hcs : P.cellsOf s = 1) (hce : P.cellsOf e = 1)
    (h : DataW.trod enc P W 0 (fun _ => true) true fuel t [v] = some x) : ∃ l, ArgT W v l := by
  rcases DataW.trod_slice ht h with ⟨hv, _⟩ | ⟨a, len, cap, elems, rest, n, _, hv, _, hb, hl, hm2, hlen, hel, _, _⟩
  · simp at hv
    subst hv
    refine ⟨[], ⟨none, 0, [], rfl, fun h => by simp at h, fun j hj => by simp at hj⟩, by simp, fun i h1 h2 => by simp at h2; omega⟩
  · simp at hv
    subst hv
    have each : ∀ i, i < len → ∃ (cv : Value) (xs : List Int) (z : Int), W.cell? (a.add (i * 2)) = some cv ∧ W.cell? ((a.add (i * 2)).add 1) = some (.int .i64 z) ∧ Arg W cv xs := by
      intro i hi
      have hy := hel i hi
      rw [List.getElem?_eq_getElem (by omega), hcm, Option.bind_eq_some_iff] at hy
      obtain ⟨cs, hcs2, hst⟩ := hy
      obtain ⟨_, hcl, hcc⟩ := World.cells?_some hcs2
      obtain ⟨xs, n', _, _, _, hxl, hfld⟩ := DataW.trod_struct hm hst
      have q0 := hfld 0 f0 h0
      have q1 := hfld 1 f1 h1
      have hfs : 2 ≤ fs.size := by have := (Array.getElem?_eq_some_iff.1 h1).1; omega
      rw [o0, t0, hcs, List.getElem?_eq_getElem (by omega)] at q0
      rw [o1, t1, hce, List.getElem?_eq_getElem (by omega)] at q1
      obtain ⟨c0, c1, rfl⟩ : ∃ c0 c1, cs = [c0, c1] := by
        match cs, hcl with
        | [c0, c1], _ => exact ⟨c0, c1, rfl⟩
      simp only [List.drop_zero, List.take_succ_cons, List.take_zero] at q0
      simp only [List.drop_succ_cons, List.drop_zero, List.take_succ_cons, List.take_zero] at q1
      obtain ⟨zs, hz⟩ := ints_arg hs he hce q0
      obtain ⟨z, hz1, _, _⟩ := DataW.trod_int he q1
      simp at hz1
      subst hz1
      have g0 := hcc 0 (by omega)
      have g1 := hcc 1 (by omega)
      simp only [List.getElem?_cons_zero, List.getElem?_cons_succ] at g0 g1
      rw [show ∀ p : Addr, p.add 0 = p from add_zero'] at g0
      exact ⟨c0, zs, z, g0, g1, hz⟩
    have hx : ∀ i, ∃ q : Value × List Int × Int, i < len → W.cell? (a.add (i * 2)) = some q.1 ∧ W.cell? ((a.add (i * 2)).add 1) = some (.int .i64 q.2.2) ∧ Arg W q.1 q.2.1 := fun i => by
      by_cases hi : i < len
      · obtain ⟨cv, xs, z, g⟩ := each i hi
        exact ⟨⟨cv, xs, z⟩, fun _ => g⟩
      · exact ⟨⟨undef, [], 0⟩, fun h => absurd h hi⟩
    let q : Nat → Value × List Int × Int := fun i => Classical.choose (hx i)
    have hq : ∀ i, i < len → W.cell? (a.add (i * 2)) = some (q i).1 ∧ W.cell? ((a.add (i * 2)).add 1) = some (.int .i64 (q i).2.2) ∧ Arg W (q i).1 (q i).2.1 := fun i => Classical.choose_spec (hx i)
    let l : List Nd := (List.range len).map fun i => ((q i).2.1, (q i).2.2)
    have hll : l.length = len := by simp [l]
    have hlg : ∀ i, i < len → l.getD i ([], 0) = ((q i).2.1, (q i).2.2) := fun i hi => by simp [l, List.getD_eq_getElem?_getD, hi]
    let cvs : List Value := (List.range len).map fun i => (q i).1
    have hcg : ∀ i, i < len → cvs.getD i undef = (q i).1 := fun i hi => by simp [cvs, List.getD_eq_getElem?_getD, hi]
    have hT : TreeM W (.slice (some a) len cap) l := by
      refine ⟨some a, cap, cvs, by rw [hll], fun _ => ⟨a, rfl, fun j hj => ?_⟩, fun j hj => ?_⟩
      · rw [hll] at hj
        rw [hcg j hj, hlg j hj]
        exact ⟨(hq j hj).1, (hq j hj).2.1⟩
      · rw [hll] at hj
        rw [hcg j hj, hlg j hj]
        exact (hq j hj).2.2.1
    refine ⟨l, hT, by rw [hll]; simp only [maxLen] at hm2; omega, fun i h0 hi => ?_⟩
    rw [hll] at hi
    obtain ⟨g0, g1, g2, A', c', g3, g4⟩ := hq i.toNat (by omega)
    have hk : kid l i = (q i.toNat).2.1 := by unfold kid; rw [hlg i.toNat (by omega)]
    have hw : wor l i = (q i.toNat).2.2 := by unfold wor; rw [hlg i.toNat (by omega)]
    rw [hk, hw]
    refine ⟨a, cap, A', c', by rw [hll], by rw [← g3]; exact g2, g4, fun w' hb => ?_⟩
    have kk := Kp.of_below (S := fun _ => False) hb
    exact ⟨by rw [← g3]; exact cell_kp kk g0 (fun e => e), cell_kp kk g1 (fun e => e)⟩
end Go.Proofs.Ytdiljpnfochndaa
