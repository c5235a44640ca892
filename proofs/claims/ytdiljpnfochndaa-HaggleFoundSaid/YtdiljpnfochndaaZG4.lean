/- A part of the walk: what this seat's statements share. -/
import Derived.Test.YtdiljpnfochndaaZG3
import Derived.Test.YtdiljpnfochndaaZG1
import Derived.Shelf.Sort.Plain
set_option linter.unusedVariables false
set_option linter.unusedSimpArgs false
set_option linter.unusedSectionVars false
namespace Go.Proofs.Ytdiljpnfochndaa
open Go Go.RowKit Go.Proofs.Ytdiljpnfochndaa.VW
open Go.Proofs.Ytdiljpnfochndaa.HP (Nd kid wor leafB rd kidsStep nodesStep cnt gameOf)
attribute [local irreducible] W Ops
theorem Below.at_ {w0 w w' : World} {S : Nat → Prop} (h : Below w0.heap.size w0 w) (k : Kp S w w') (hs : ∀ i, S i → w0.heap.size ≤ i) : Below w0.heap.size w0 w' := Kp.then h h.size k hs
structure GCore (l : List Nd) (w0 : World) (tv dv : Value) (g : Nat) (dep : List Int) (seen : Int) (w : World) : Prop where
  bel : Below w0.heap.size w0 w
  blk : Blk w g #[tv, dv] 100
  ge : w0.heap.size ≤ g
  own : w.ownsRow 0 3 1 dv dep.length (dep.map (Value.int .i64))
  ne : ∀ k, dv.ownBlock = some k → w0.heap.size ≤ k ∧ k ≠ g
  len : dep.length = l.length
  seen_eq : seen = 1 + cnt dep
  bd : ∀ j : Nat, 0 ≤ dep.getD j 0 ∧ dep.getD j 0 ≤ j
theorem GCore.kp {l : List Nd} {w0 w w' : World} {tv dv : Value} {g : Nat} {dep : List Int} {seen : Int} {S : Nat → Prop} (h : GCore l w0 tv dv g dep seen w) (k : Kp S w w') (hs : ∀ i, S i → w.heap.size ≤ i ∨ (w0.heap.size ≤ i ∧ i ≠ g ∧ dv.ownBlock ≠ some i)) : GCore l w0 tv dv g dep seen w' := by
  refine ⟨Below.at_ h.bel k (fun i hi => ?_), h.blk.kp k (fun e => ?_), h.ge, own_kp h.own k (fun i hi e => ?_), h.ne, h.len, h.seen_eq, h.bd⟩
  · have := h.bel.size; rcases hs i hi with h | h <;> omega
  · have := h.blk.lt; rcases hs g e with h | h <;> omega
  · have := (h.own.lt i hi).2; rcases hs i e with h | h
    · omega
    · exact h.2.2 hi
set_option maxRecDepth 100000 in
theorem newGame_c {w : World} {v : Value} {l : List Nd} (hT : TreeM w v l) (hl : l.length ≤ 9223372036854775807) :
    Calls Try.prog 55 #[v] w (Ret fun r w' => Below w.heap.size w w' ∧ match gameOf l with
      | none => ∃ p, p.oneCell' = true ∧ r = .tuple #[p, .bool false]
      | some dep => ∃ g, r = .tuple #[.pointer (some ⟨g, 0, none⟩), .bool true] ∧ w.heap.size ≤ g ∧ Game w' g l dep) := by
  obtain ⟨A, c, rfl⟩ := hT.sl
  refine calls_W (vs := [_]) Try.func55 rfl (by kernel_rfl) rfl ?_
  (repeat (first | with_reducible refine W.seq ?_ | with_reducible refine Ops.nil ?_ | with_reducible refine W.region ?_ | refine z_p (kk := ?_) | refine z_a (kk := ?_) | refine z_y (kk := ?_) | refine z_n (kk := ?_) | refine z_u (kk := ?_) | with_reducible refine W.skip ?_ | with_reducible refine W.endb ?_ | with_reducible refine W.block ?_ | refine W.exit rfl ?_ | refine z_l (kk := ?_) | refine z_f (kk := ?_) | refine z_M (kk := ?_) | refine z_m (kk := ?_) | refine z_e (kk := ?_) | refine z_E (kk := ?_) | refine z_d (kk := ?_)))
  refine Ops.callS rfl rfl rfl rfl rfl (within_c _ _ _ _) ?_
  (repeat (first | with_reducible refine W.seq ?_ | with_reducible refine Ops.nil ?_ | with_reducible refine W.region ?_ | refine z_p (kk := ?_) | refine z_a (kk := ?_) | refine z_y (kk := ?_) | refine z_n (kk := ?_) | refine z_u (kk := ?_) | with_reducible refine W.skip ?_ | with_reducible refine W.endb ?_ | with_reducible refine W.block ?_ | refine W.exit rfl ?_ | refine z_l (kk := ?_) | refine z_f (kk := ?_) | refine z_M (kk := ?_) | refine z_m (kk := ?_) | refine z_e (kk := ?_) | refine z_E (kk := ?_) | refine z_d (kk := ?_)))
  refine W.cond rfl (fun hc => ?_) (fun hc => ?_)
  · (repeat (first | with_reducible refine W.seq ?_ | with_reducible refine Ops.nil ?_ | with_reducible refine W.region ?_ | refine z_p (kk := ?_) | refine z_a (kk := ?_) | refine z_y (kk := ?_) | refine z_n (kk := ?_) | refine z_u (kk := ?_) | with_reducible refine W.skip ?_ | with_reducible refine W.endb ?_ | with_reducible refine W.block ?_ | refine W.exit rfl ?_ | refine z_l (kk := ?_) | refine z_f (kk := ?_) | refine z_M (kk := ?_) | refine z_m (kk := ?_) | refine z_e (kk := ?_) | refine z_E (kk := ?_) | refine z_d (kk := ?_)))
    have hg : gameOf l = none := by
      simp only [gameOf]
      rw [if_neg]
      simp at hc
      omega
    refine W.fret rfl ⟨Below.refl _ _, ?_⟩
    rw [hg]
    exact ⟨_, rfl, rfl⟩
  have hn : 1 ≤ l.length ∧ l.length ≤ 60 := by simp at hc; omega
  (repeat (first | with_reducible refine W.seq ?_ | with_reducible refine Ops.nil ?_ | with_reducible refine W.region ?_ | refine z_p (kk := ?_) | refine z_a (kk := ?_) | refine z_y (kk := ?_) | refine z_n (kk := ?_) | refine z_u (kk := ?_) | with_reducible refine W.skip ?_ | with_reducible refine W.endb ?_ | with_reducible refine W.block ?_ | refine W.exit rfl ?_ | refine z_l (kk := ?_) | refine z_f (kk := ?_) | refine z_M (kk := ?_) | refine z_m (kk := ?_) | refine z_e (kk := ?_) | refine z_E (kk := ?_) | refine z_d (kk := ?_)))
  refine Ops.mkS rfl rfl rfl rfl rfl rfl rfl rfl rfl (by omega) (by simp; omega) (fun w1 dr hdr k1 hdl hown => ?_)
  simp only [Int.toNat_natCast] at hown ⊢
  rw [show l.length * 1 = l.length from Nat.mul_one _, madeCells_one rfl] at hown
  refine Ops.bld2 rfl rfl rfl rfl rfl rfl rfl rfl rfl ?_
  refine Ops.box rfl rfl rfl rfl (fun w2 g hM => ?_)
  (repeat (first | with_reducible refine W.seq ?_ | with_reducible refine Ops.nil ?_ | with_reducible refine W.region ?_ | refine z_p (kk := ?_) | refine z_a (kk := ?_) | refine z_y (kk := ?_) | refine z_n (kk := ?_) | refine z_u (kk := ?_) | with_reducible refine W.skip ?_ | with_reducible refine W.endb ?_ | with_reducible refine W.block ?_ | refine W.exit rfl ?_ | refine z_l (kk := ?_) | refine z_f (kk := ?_) | refine z_M (kk := ?_) | refine z_m (kk := ?_) | refine z_e (kk := ?_) | refine z_E (kk := ?_) | refine z_d (kk := ?_)))
  have hg0 : g = w1.heap.size := hM.r_eq
  have hk2 : Kp (fun _ => False) w w2 := (k1.trans hM.kp).mono (by simp)
  have hC0 : GCore l w (.slice A l.length c) (.slice (some ⟨dr, 0, none⟩) l.length l.length) g (List.replicate l.length 0) 1 w2 := by
    refine ⟨hk2.below (Nat.le_refl _) (fun _ _ e => e), hM.at_, by rw [hg0]; exact k1.size, ?_, ?_, by simp, ?_, ?_⟩
    · have := own_kp hown hM.kp (fun _ _ e => e)
      simpa using this
    · intro k hk
      simp [Value.ownBlock] at hk
      omega
    · have : cnt (List.replicate l.length 0) = 0 := by simp [cnt, List.countP_replicate]
      rw [this]; rfl
    · intro j
      have : (List.replicate l.length (0 : Int)).getD j 0 = 0 := by
        rw [List.getD_eq_getElem?_getD, List.getElem?_replicate]; split <;> rfl
      omega
  clear hown hk2 k1 hM
  generalize hR : nodesStep l.length 0 l (List.replicate l.length 0) = R at *
  refine W.loop (fun m ρ w3 => ∃ (i : Nat) (dep : List Int) (seen : Int), m = l.length - i ∧ i ≤ l.length ∧
      ρ = [(4, .int .i64 l.length), (5, .pointer (some ⟨g, 0, none⟩)), (6, .int .i64 seen), (21, .slice A l.length c), (22, .int .i64 l.length), (23, .int .i64 i)] ∧
      GCore l w (.slice A l.length c) (.slice (some ⟨dr, 0, none⟩) l.length l.length) g dep seen w3 ∧ nodesStep l.length i (l.drop i) dep = R)
    ⟨_, _, ⟨0, _, _, rfl, Nat.zero_le _, rfl, hC0, hR⟩, (by repeat (first | exact trivial | refine And.intro rfl ?_))⟩ ?_
  rintro m ρ w3 ⟨i, dep, seen, rfl, hi, rfl, hC, hR'⟩
  (repeat (first | with_reducible refine W.seq ?_ | with_reducible refine Ops.nil ?_ | with_reducible refine W.region ?_ | refine z_p (kk := ?_) | refine z_a (kk := ?_) | refine z_y (kk := ?_) | refine z_n (kk := ?_) | refine z_u (kk := ?_) | with_reducible refine W.skip ?_ | with_reducible refine W.endb ?_ | with_reducible refine W.block ?_ | refine W.exit rfl ?_ | refine z_l (kk := ?_) | refine z_f (kk := ?_) | refine z_M (kk := ?_) | refine z_m (kk := ?_) | refine z_e (kk := ?_) | refine z_E (kk := ?_) | refine z_d (kk := ?_)))
  refine W.cond rfl (fun hc => ?_) (fun hc => ?_)
  · have hlt : i < l.length := by simp at hc; omega
    (repeat (first | with_reducible refine W.seq ?_ | with_reducible refine Ops.nil ?_ | with_reducible refine W.region ?_ | refine z_p (kk := ?_) | refine z_a (kk := ?_) | refine z_y (kk := ?_) | refine z_n (kk := ?_) | refine z_u (kk := ?_) | with_reducible refine W.skip ?_ | with_reducible refine W.endb ?_ | with_reducible refine W.block ?_ | refine W.exit rfl ?_ | refine z_l (kk := ?_) | refine z_f (kk := ?_) | refine z_M (kk := ?_) | refine z_m (kk := ?_) | refine z_e (kk := ?_) | refine z_E (kk := ?_) | refine z_d (kk := ?_)))
    refine Ops.rdN rfl rfl rfl rfl rfl rfl rfl rfl rfl rfl rfl rfl hT hC.bel (by omega) (by omega) (fun cv p hcv => ?_)
    refine Ops.alloc rfl rfl rfl rfl (fun w4 x hx => ?_)
    (repeat (first | with_reducible refine W.seq ?_ | with_reducible refine Ops.nil ?_ | with_reducible refine W.region ?_ | refine z_p (kk := ?_) | refine z_a (kk := ?_) | refine z_y (kk := ?_) | refine z_n (kk := ?_) | refine z_u (kk := ?_) | with_reducible refine W.skip ?_ | with_reducible refine W.endb ?_ | with_reducible refine W.block ?_ | refine W.exit rfl ?_ | refine z_l (kk := ?_) | refine z_f (kk := ?_) | refine z_M (kk := ?_) | refine z_m (kk := ?_) | refine z_e (kk := ?_) | refine z_E (kk := ?_) | refine z_d (kk := ?_)))
    obtain ⟨Ac, cc, rfl⟩ := Sl.sl hcv
    refine Ops.st2 rfl rfl rfl rfl rfl rfl rfl rfl hx.at_ (fun w5 hu => ?_)
    (repeat (first | with_reducible refine W.seq ?_ | with_reducible refine Ops.nil ?_ | with_reducible refine W.region ?_ | refine z_p (kk := ?_) | refine z_a (kk := ?_) | refine z_y (kk := ?_) | refine z_n (kk := ?_) | refine z_u (kk := ?_) | with_reducible refine W.skip ?_ | with_reducible refine W.endb ?_ | with_reducible refine W.block ?_ | refine W.exit rfl ?_ | refine z_l (kk := ?_) | refine z_f (kk := ?_) | refine z_M (kk := ?_) | refine z_m (kk := ?_) | refine z_e (kk := ?_) | refine z_E (kk := ?_) | refine z_d (kk := ?_)))
    have hk5 : Kp (fun j => False ∨ j = x) w3 w5 := hx.kp.trans hu.kp
    have hC5 : GCore l w (.slice A l.length c) (.slice (some ⟨dr, 0, none⟩) l.length l.length) g dep seen w5 :=
      hC.kp hk5 (fun j hj => .inl (by rcases hj with hj | hj; exact hj.elim; rw [hj, hx.r_eq]; exact Nat.le_refl _))
    have hD5 : SlI w5 (.slice (some ⟨dr, 0, none⟩) l.length l.length) dep := by
      have := own_sl (z := (0 : Int)) hC5.own
      exact this
    have hX5 := hu.blk
    refine Ops.cut (fun ρ w' => ∃ b : Bool, ρ = [(4, .int .i64 l.length), (5, .pointer (some ⟨g, 0, none⟩)), (6, .int .i64 seen), (7, .int .i64 i), (8, .pointer (some ⟨x, 0, none⟩)), (21, .slice A l.length c), (22, .int .i64 l.length), (23, .int .i64 i), (56, .bool b)] ∧ w' = w5 ∧
      (b = true ↔ (0 < (i : Int) ∧ rd dep i = 0) ∨ ¬ (-100 ≤ wor l i ∧ wor l i ≤ 100) ∨ (0 < (kid l i).length ∧ wor l i ≠ 0))) ?_ ?_
    · have hB5 := hC5.blk
      (repeat' (first | with_reducible refine W.seq ?_ | with_reducible refine Ops.nil ?_ | with_reducible refine W.region ?_ | refine z_p (kk := ?_) | refine z_a (kk := ?_) | refine z_y (kk := ?_) | refine z_n (kk := ?_) | refine z_u (kk := ?_) | with_reducible refine W.skip ?_ | with_reducible refine W.endb ?_ | with_reducible refine W.block ?_ | refine W.exit rfl ?_ | refine z_l (kk := ?_) | refine z_f (kk := ?_) | refine z_M (kk := ?_) | refine z_m (kk := ?_) | refine z_e (kk := ?_) | refine z_E (kk := ?_) | refine z_d (kk := ?_) | refine Ops.gdT rfl rfl rfl rfl (fun _ => ?_) (fun _ => ?_) | refine Ops.gdF rfl rfl rfl rfl (fun _ => ?_) (fun _ => ?_) | refine Ops.callS rfl rfl rfl rfl rfl (within_c _ _ _ _) ?_ | (refine Ops.rdSg (enc := Value.int .i64) (z := (0 : Int)) rfl rfl rfl rfl rfl rfl rfl rfl rfl rfl rfl rfl rfl rfl hD5 (by omega) (by have := hC5.len; omega) (fun p => ?_))))
      all_goals refine W.endl ⟨_, ⟨_, rfl, rfl, ?_⟩, (by repeat (first | exact trivial | refine And.intro rfl ?_))⟩
      all_goals clear hC hC5 hX5 hB5 hD5 hC0 hT hcv hu hx hR hR' hk5
      all_goals simp_all
      all_goals omega
    · rintro ρ w5 ⟨b, rfl, rfl, hb⟩
      have hgame : gameOf l = R.bind fun dep => if 1 + cnt dep = l.length then some dep else none := by
        simp only [gameOf]
        rw [if_pos hn, hR]
      rw [Go.Proofs.Ytdiljpnfochndaa.HP.nodes_at _ _ _ _ hlt] at hR'
      (repeat (first | with_reducible refine W.seq ?_ | with_reducible refine Ops.nil ?_ | with_reducible refine W.region ?_ | refine z_p (kk := ?_) | refine z_a (kk := ?_) | refine z_y (kk := ?_) | refine z_n (kk := ?_) | refine z_u (kk := ?_) | with_reducible refine W.skip ?_ | with_reducible refine W.endb ?_ | with_reducible refine W.block ?_ | refine W.exit rfl ?_ | refine z_l (kk := ?_) | refine z_f (kk := ?_) | refine z_M (kk := ?_) | refine z_m (kk := ?_) | refine z_e (kk := ?_) | refine z_E (kk := ?_) | refine z_d (kk := ?_)))
      refine W.cond rfl (fun hc => ?_) (fun hc => ?_)
      · (repeat (first | with_reducible refine W.seq ?_ | with_reducible refine Ops.nil ?_ | with_reducible refine W.region ?_ | refine z_p (kk := ?_) | refine z_a (kk := ?_) | refine z_y (kk := ?_) | refine z_n (kk := ?_) | refine z_u (kk := ?_) | with_reducible refine W.skip ?_ | with_reducible refine W.endb ?_ | with_reducible refine W.block ?_ | refine W.exit rfl ?_ | refine z_l (kk := ?_) | refine z_f (kk := ?_) | refine z_M (kk := ?_) | refine z_m (kk := ?_) | refine z_e (kk := ?_) | refine z_E (kk := ?_) | refine z_d (kk := ?_)))
        rw [if_pos (by have := hb.1 hc; exact this)] at hR'
        refine W.fret rfl ⟨hC5.bel, ?_⟩
        rw [hgame, ← hR']
        exact ⟨_, rfl, rfl⟩
      · rw [if_neg (by intro h; have := hb.2 h; rw [hc] at this; simp at this)] at hR'
        (repeat (first | with_reducible refine W.seq ?_ | with_reducible refine Ops.nil ?_ | with_reducible refine W.region ?_ | refine z_p (kk := ?_) | refine z_a (kk := ?_) | refine z_y (kk := ?_) | refine z_n (kk := ?_) | refine z_u (kk := ?_) | with_reducible refine W.skip ?_ | with_reducible refine W.endb ?_ | with_reducible refine W.block ?_ | refine W.exit rfl ?_ | refine z_l (kk := ?_) | refine z_f (kk := ?_) | refine z_M (kk := ?_) | refine z_m (kk := ?_) | refine z_e (kk := ?_) | refine z_E (kk := ?_) | refine z_d (kk := ?_)))
        clear hb hc
        refine W.loop (fun m ρ w6 => ∃ (j : Nat) (dep : List Int) (seen : Int), m = (kid l i).length - j ∧ j ≤ (kid l i).length ∧
            ρ = [(4, .int .i64 l.length), (5, .pointer (some ⟨g, 0, none⟩)), (6, .int .i64 seen), (7, .int .i64 i), (21, .slice A l.length c), (22, .int .i64 l.length), (23, .int .i64 i), (58, .slice Ac (kid l i).length cc), (59, .int .i64 (kid l i).length), (60, .int .i64 j)] ∧
            GCore l w (.slice A l.length c) (.slice (some ⟨dr, 0, none⟩) l.length l.length) g dep seen w6 ∧ (kidsStep l.length i ((kid l i).drop j) dep).bind (nodesStep l.length (i + 1) (l.drop (i + 1))) = R)
          ⟨_, _, ⟨0, _, _, rfl, Nat.zero_le _, rfl, hC5, hR'⟩, (by repeat (first | exact trivial | refine And.intro rfl ?_))⟩ ?_
        clear hC hC5 hX5 hD5 hC0 hu hx hR' hk5
        rintro m ρ w6 ⟨j, dep, seen, rfl, hj, rfl, hC, hR'⟩
        (repeat (first | with_reducible refine W.seq ?_ | with_reducible refine Ops.nil ?_ | with_reducible refine W.region ?_ | refine z_p (kk := ?_) | refine z_a (kk := ?_) | refine z_y (kk := ?_) | refine z_n (kk := ?_) | refine z_u (kk := ?_) | with_reducible refine W.skip ?_ | with_reducible refine W.endb ?_ | with_reducible refine W.block ?_ | refine W.exit rfl ?_ | refine z_l (kk := ?_) | refine z_f (kk := ?_) | refine z_M (kk := ?_) | refine z_m (kk := ?_) | refine z_e (kk := ?_) | refine z_E (kk := ?_) | refine z_d (kk := ?_)))
        refine W.cond rfl (fun hc => ?_) (fun hc => ?_)
        · have hjl : j < (kid l i).length := by simp at hc; omega
          (repeat (first | with_reducible refine W.seq ?_ | with_reducible refine Ops.nil ?_ | with_reducible refine W.region ?_ | refine z_p (kk := ?_) | refine z_a (kk := ?_) | refine z_y (kk := ?_) | refine z_n (kk := ?_) | refine z_u (kk := ?_) | with_reducible refine W.skip ?_ | with_reducible refine W.endb ?_ | with_reducible refine W.block ?_ | refine W.exit rfl ?_ | refine z_l (kk := ?_) | refine z_f (kk := ?_) | refine z_M (kk := ?_) | refine z_m (kk := ?_) | refine z_e (kk := ?_) | refine z_E (kk := ?_) | refine z_d (kk := ?_)))
          refine Ops.rdS (enc := Value.int .i64) (z := (0 : Int)) rfl rfl rfl rfl rfl rfl rfl rfl rfl rfl rfl (Sl.below hcv hC.bel) (by omega) (by omega) (fun p => ?_)
          simp only [Int.toNat_natCast]
          have hR2 := hR'
          rw [Go.Proofs.Ytdiljpnfochndaa.HP.kids_at _ _ _ _ _ hjl] at hR'
          generalize hcd : (kid l i).getD j 0 = cd at *
          have hD : SlI w6 (.slice (some ⟨dr, 0, none⟩) l.length l.length) dep := by
            have := own_sl (z := (0 : Int)) hC.own
            exact this
          have hB6 := hC.blk
          have hkl := Sl.len hcv
          (repeat (first | with_reducible refine W.seq ?_ | with_reducible refine Ops.nil ?_ | with_reducible refine W.region ?_ | refine z_p (kk := ?_) | refine z_a (kk := ?_) | refine z_y (kk := ?_) | refine z_n (kk := ?_) | refine z_u (kk := ?_) | with_reducible refine W.skip ?_ | with_reducible refine W.endb ?_ | with_reducible refine W.block ?_ | refine W.exit rfl ?_ | refine z_l (kk := ?_) | refine z_f (kk := ?_) | refine z_M (kk := ?_) | refine z_m (kk := ?_) | refine z_e (kk := ?_) | refine z_E (kk := ?_) | refine z_d (kk := ?_)))
          refine Ops.callS rfl rfl rfl rfl rfl (within_c _ _ _ _) ?_
          refine Ops.cut (fun ρ w' => ∃ b : Bool, ρ = [(4, .int .i64 l.length), (5, .pointer (some ⟨g, 0, none⟩)), (6, .int .i64 seen), (7, .int .i64 i), (10, .int .i64 cd), (21, .slice A l.length c), (22, .int .i64 l.length), (23, .int .i64 i), (58, .slice Ac (kid l i).length cc), (59, .int .i64 (kid l i).length), (60, .int .i64 j), (80, .bool b)] ∧ w' = w6 ∧
            (b = false ↔ (i : Int) + 1 ≤ cd ∧ cd ≤ l.length - 1 ∧ rd dep cd ≤ 0)) ?_ ?_
          · (repeat' (first | with_reducible refine W.seq ?_ | with_reducible refine Ops.nil ?_ | with_reducible refine W.region ?_ | refine z_p (kk := ?_) | refine z_a (kk := ?_) | refine z_y (kk := ?_) | refine z_n (kk := ?_) | refine z_u (kk := ?_) | with_reducible refine W.skip ?_ | with_reducible refine W.endb ?_ | with_reducible refine W.block ?_ | refine W.exit rfl ?_ | refine z_l (kk := ?_) | refine z_f (kk := ?_) | refine z_M (kk := ?_) | refine z_m (kk := ?_) | refine z_e (kk := ?_) | refine z_E (kk := ?_) | refine z_d (kk := ?_) | refine Ops.gdT rfl rfl rfl rfl (fun _ => ?_) (fun _ => ?_) | refine Ops.gdF rfl rfl rfl rfl (fun _ => ?_) (fun _ => ?_) | (refine Ops.rdSg (enc := Value.int .i64) (z := (0 : Int)) rfl rfl rfl rfl rfl rfl rfl rfl rfl rfl rfl rfl rfl rfl hD (by rename_i hh; simp at hh; omega) (by rename_i hh; simp at hh; have := hC.len; omega) (fun p => ?_))))
            all_goals refine W.endl ⟨_, ⟨_, rfl, rfl, ?_⟩, (by repeat (first | exact trivial | refine And.intro rfl ?_))⟩
            · rename_i hh
              clear hC hcv hB6 hD hR' hR2 hT
              simp at hh
              simp
              omega
            · rename_i hh
              clear hC hcv hB6 hD hR' hR2 hT
              simp at hh
              simp [rd]
              omega
          · rintro ρ w6 ⟨b, rfl, rfl, hb⟩
            (repeat (first | with_reducible refine W.seq ?_ | with_reducible refine Ops.nil ?_ | with_reducible refine W.region ?_ | refine z_p (kk := ?_) | refine z_a (kk := ?_) | refine z_y (kk := ?_) | refine z_n (kk := ?_) | refine z_u (kk := ?_) | with_reducible refine W.skip ?_ | with_reducible refine W.endb ?_ | with_reducible refine W.block ?_ | refine W.exit rfl ?_ | refine z_l (kk := ?_) | refine z_f (kk := ?_) | refine z_M (kk := ?_) | refine z_m (kk := ?_) | refine z_e (kk := ?_) | refine z_E (kk := ?_) | refine z_d (kk := ?_)))
            refine W.cond rfl (fun hc => ?_) (fun hc => ?_)
            · (repeat (first | with_reducible refine W.seq ?_ | with_reducible refine Ops.nil ?_ | with_reducible refine W.region ?_ | refine z_p (kk := ?_) | refine z_a (kk := ?_) | refine z_y (kk := ?_) | refine z_n (kk := ?_) | refine z_u (kk := ?_) | with_reducible refine W.skip ?_ | with_reducible refine W.endb ?_ | with_reducible refine W.block ?_ | refine W.exit rfl ?_ | refine z_l (kk := ?_) | refine z_f (kk := ?_) | refine z_M (kk := ?_) | refine z_m (kk := ?_) | refine z_e (kk := ?_) | refine z_E (kk := ?_) | refine z_d (kk := ?_)))
              rw [if_neg (by intro h; have := hb.2 h; rw [hc] at this; simp at this)] at hR'
              refine W.fret rfl ⟨hC.bel, ?_⟩
              rw [hgame, ← hR']
              exact ⟨_, rfl, rfl⟩
            · have hcd3 := hb.1 hc
              rw [if_pos hcd3] at hR'
              (repeat (first | with_reducible refine W.seq ?_ | with_reducible refine Ops.nil ?_ | with_reducible refine W.region ?_ | refine z_p (kk := ?_) | refine z_a (kk := ?_) | refine z_y (kk := ?_) | refine z_n (kk := ?_) | refine z_u (kk := ?_) | with_reducible refine W.skip ?_ | with_reducible refine W.endb ?_ | with_reducible refine W.block ?_ | refine W.exit rfl ?_ | refine z_l (kk := ?_) | refine z_f (kk := ?_) | refine z_M (kk := ?_) | refine z_m (kk := ?_) | refine z_e (kk := ?_) | refine z_E (kk := ?_) | refine z_d (kk := ?_)))
              refine W.tail' 13 rfl (by kernel_rfl) (fun w7 k7 _ => ?_)
              have hC7 := hC.kp k7 (fun _ e => e.elim)
              have hD7 := Sl.kp hD k7 (fun _ _ e => e)
              have hB7 := hC7.blk
              have hbi := hC.bd i
              have hlen := hC.len
              (repeat (first | with_reducible refine W.seq ?_ | with_reducible refine Ops.nil ?_ | with_reducible refine W.region ?_ | refine z_p (kk := ?_) | refine z_a (kk := ?_) | refine z_y (kk := ?_) | refine z_n (kk := ?_) | refine z_u (kk := ?_) | with_reducible refine W.skip ?_ | with_reducible refine W.endb ?_ | with_reducible refine W.block ?_ | refine W.exit rfl ?_ | refine z_l (kk := ?_) | refine z_f (kk := ?_) | refine z_M (kk := ?_) | refine z_m (kk := ?_) | refine z_e (kk := ?_) | refine z_E (kk := ?_) | refine z_d (kk := ?_)))
              refine Ops.rdS (enc := Value.int .i64) (z := (0 : Int)) rfl rfl rfl rfl rfl rfl rfl rfl rfl rfl rfl hD7 (by omega) (by omega) (fun p => ?_)
              simp only [Int.toNat_natCast]
              (repeat (first | with_reducible refine W.seq ?_ | with_reducible refine Ops.nil ?_ | with_reducible refine W.region ?_ | refine z_p (kk := ?_) | refine z_a (kk := ?_) | refine z_y (kk := ?_) | refine z_n (kk := ?_) | refine z_u (kk := ?_) | with_reducible refine W.skip ?_ | with_reducible refine W.endb ?_ | with_reducible refine W.block ?_ | refine W.exit rfl ?_ | refine z_l (kk := ?_) | refine z_f (kk := ?_) | refine z_M (kk := ?_) | refine z_m (kk := ?_) | refine z_e (kk := ?_) | refine z_E (kk := ?_) | refine z_d (kk := ?_)))
              refine Ops.nilS rfl ?_
              refine Ops.wrS rfl rfl rfl rfl rfl rfl rfl rfl rfl rfl rfl rfl (by simp) rfl hC7.own (by omega) (by omega) (fun w8 p hown k8 _ => ?_)
              have hcnt : cnt (dep.set cd.toNat (dep.getD i 0 + 1)) = cnt dep + 1 := Go.Proofs.Ytdiljpnfochndaa.HP.cnt_set (by omega) hcd3.2.2 (by omega)
              have hcle := Go.Proofs.Ytdiljpnfochndaa.HP.cnt_le dep
              have hse := hC.seen_eq
              have hC8 : GCore l w (.slice A l.length c) (.slice (some ⟨dr, 0, none⟩) l.length l.length) g (dep.set cd.toNat (dep.getD i 0 + 1)) (seen + 1) w8 := by
                refine ⟨Below.at_ hC7.bel k8 (fun i hi => (hC.ne i hi).1), hC7.blk.kp k8 (fun e => (hC.ne g e).2 rfl), hC.ge, ?_, hC.ne, by simpa using hC.len, by rw [hcnt]; omega, ?_⟩
                · rw [List.map_set, List.length_set]; exact hown
                · intro q
                  have hq := hC.bd q
                  by_cases e : cd.toNat = q
                  · subst e
                    rw [List.getD_eq_getElem?_getD, List.getElem?_set_self (by omega)]
                    simp only [Option.getD_some]
                    omega
                  · rw [List.getD_eq_getElem?_getD, List.getElem?_set_ne e, ← List.getD_eq_getElem?_getD]; exact hq
              (repeat (first | with_reducible refine W.seq ?_ | with_reducible refine Ops.nil ?_ | with_reducible refine W.region ?_ | refine z_p (kk := ?_) | refine z_a (kk := ?_) | refine z_y (kk := ?_) | refine z_n (kk := ?_) | refine z_u (kk := ?_) | with_reducible refine W.skip ?_ | with_reducible refine W.endb ?_ | with_reducible refine W.block ?_ | refine W.exit rfl ?_ | refine z_l (kk := ?_) | refine z_f (kk := ?_) | refine z_M (kk := ?_) | refine z_m (kk := ?_) | refine z_e (kk := ?_) | refine z_E (kk := ?_) | refine z_d (kk := ?_)))
              refine W.endl ⟨_, _, ⟨⟨j + 1, _, _, rfl, by omega, rfl, hC8, hR'⟩, by omega⟩, (by repeat (first | exact trivial | refine And.intro rfl ?_))⟩
        · have hjl : j = (kid l i).length := by simp at hc; omega
          subst hjl
          rw [List.drop_length] at hR'
          (repeat (first | with_reducible refine W.seq ?_ | with_reducible refine Ops.nil ?_ | with_reducible refine W.region ?_ | refine z_p (kk := ?_) | refine z_a (kk := ?_) | refine z_y (kk := ?_) | refine z_n (kk := ?_) | refine z_u (kk := ?_) | with_reducible refine W.skip ?_ | with_reducible refine W.endb ?_ | with_reducible refine W.block ?_ | refine W.exit rfl ?_ | refine z_l (kk := ?_) | refine z_f (kk := ?_) | refine z_M (kk := ?_) | refine z_m (kk := ?_) | refine z_e (kk := ?_) | refine z_E (kk := ?_) | refine z_d (kk := ?_)))
          refine W.endl ⟨_, _, ⟨⟨i + 1, _, _, rfl, by omega, rfl, hC, hR'⟩, by omega⟩, (by repeat (first | exact trivial | refine And.intro rfl ?_))⟩
  · have hil : i = l.length := by simp at hc; omega
    subst hil
    rw [List.drop_length] at hR'
    simp only [nodesStep] at hR'
    (repeat (first | with_reducible refine W.seq ?_ | with_reducible refine Ops.nil ?_ | with_reducible refine W.region ?_ | refine z_p (kk := ?_) | refine z_a (kk := ?_) | refine z_y (kk := ?_) | refine z_n (kk := ?_) | refine z_u (kk := ?_) | with_reducible refine W.skip ?_ | with_reducible refine W.endb ?_ | with_reducible refine W.block ?_ | refine W.exit rfl ?_ | refine z_l (kk := ?_) | refine z_f (kk := ?_) | refine z_M (kk := ?_) | refine z_m (kk := ?_) | refine z_e (kk := ?_) | refine z_E (kk := ?_) | refine z_d (kk := ?_)))
    have hgame : gameOf l = R.bind fun dep => if 1 + cnt dep = l.length then some dep else none := by
      simp only [gameOf]
      rw [if_pos hn, hR]
    rw [← hR'] at hgame
    simp only [Option.bind_some] at hgame
    have hse := hC.seen_eq
    refine W.fret rfl ⟨hC.bel, ?_⟩
    rw [hgame]
    by_cases e : 1 + cnt dep = l.length
    · rw [if_pos e]
      have : (seen == (l.length : Int)) = true := by simp; omega
      refine ⟨g, by simp only [resV]; rw [this], hC.ge, ⟨⟨_, _, hC.blk, hT.below hC.bel, ?_⟩⟩⟩
      have := own_sl (z := (0 : Int)) hC.own
      exact this
    · rw [if_neg e]
      have : (seen == (l.length : Int)) = false := by simp; omega
      exact ⟨_, rfl, by simp only [resV]; rw [this]⟩
end Go.Proofs.Ytdiljpnfochndaa
namespace Go.Proofs.Ytdiljpnfochndaa
open Go Go.RowKit Go.Proofs.Ytdiljpnfochndaa.VW
open Go.Proofs.Ytdiljpnfochndaa.HP (Nd kid wor leafB rd TF evB)
attribute [local irreducible] W Ops
theorem atMax_c {w : World} {g : Nat} {l : List Nd} {dep : List Int} (hG : Game w g l dep) (i : Int) (h0 : 0 ≤ i) (h1 : i < dep.length) :
    Calls Try.prog 75 #[.pointer (some ⟨g, 0, none⟩), .int .i64 i] w (Ret fun v w' => v = .bool (evB dep i) ∧ w' = w) := by
  obtain ⟨tv, dv, hB, hT, hD⟩ := hG.out
  refine calls_W (vs := [_, _]) Try.func75 rfl (by kernel_rfl) rfl ?_
  (repeat (first | with_reducible refine W.seq ?_ | with_reducible refine Ops.nil ?_ | with_reducible refine W.region ?_ | refine z_p (kk := ?_) | refine z_a (kk := ?_) | refine z_y (kk := ?_) | refine z_n (kk := ?_) | refine z_u (kk := ?_) | with_reducible refine W.skip ?_ | with_reducible refine W.endb ?_ | with_reducible refine W.block ?_ | refine W.exit rfl ?_ | refine z_l (kk := ?_) | refine z_f (kk := ?_) | refine z_M (kk := ?_) | refine z_m (kk := ?_) | refine z_e (kk := ?_) | refine z_E (kk := ?_) | refine z_d (kk := ?_)))
  refine Ops.rdS (enc := Value.int .i64) (z := (0 : Int)) rfl rfl rfl rfl rfl rfl rfl rfl rfl rfl rfl hD h0 h1 (fun p => ?_)
  refine Ops.rem rfl rfl rfl rfl rfl (by simp) ?_
  (repeat (first | with_reducible refine W.seq ?_ | with_reducible refine Ops.nil ?_ | with_reducible refine W.region ?_ | refine z_p (kk := ?_) | refine z_a (kk := ?_) | refine z_y (kk := ?_) | refine z_n (kk := ?_) | refine z_u (kk := ?_) | with_reducible refine W.skip ?_ | with_reducible refine W.endb ?_ | with_reducible refine W.block ?_ | refine W.exit rfl ?_ | refine z_l (kk := ?_) | refine z_f (kk := ?_) | refine z_M (kk := ?_) | refine z_m (kk := ?_) | refine z_e (kk := ?_) | refine z_E (kk := ?_) | refine z_d (kk := ?_)))
  exact W.fret rfl ⟨rfl, rfl⟩
theorem worth_c {w : World} {g : Nat} {l : List Nd} {dep : List Int} (hG : Game w g l dep) (i : Int) (h0 : 0 ≤ i) (h1 : i < l.length) :
    Calls Try.prog 60 #[.pointer (some ⟨g, 0, none⟩), .int .i64 i] w (Ret fun v w' => v = .int .i64 (wor l i) ∧ w' = w) := by
  obtain ⟨tv, dv, hB, hT, hD⟩ := hG.out
  refine calls_W (vs := [_, _]) Try.func60 rfl (by kernel_rfl) rfl ?_
  (repeat (first | with_reducible refine W.seq ?_ | with_reducible refine Ops.nil ?_ | with_reducible refine W.region ?_ | refine z_p (kk := ?_) | refine z_a (kk := ?_) | refine z_y (kk := ?_) | refine z_n (kk := ?_) | refine z_u (kk := ?_) | with_reducible refine W.skip ?_ | with_reducible refine W.endb ?_ | with_reducible refine W.block ?_ | refine W.exit rfl ?_ | refine z_l (kk := ?_) | refine z_f (kk := ?_) | refine z_M (kk := ?_) | refine z_m (kk := ?_) | refine z_e (kk := ?_) | refine z_E (kk := ?_) | refine z_d (kk := ?_)))
  refine Ops.rdW rfl rfl rfl rfl rfl rfl rfl rfl rfl rfl rfl rfl rfl rfl rfl hT (Below.refl _ _) h0 h1 (fun p q => ?_)
  (repeat (first | with_reducible refine W.seq ?_ | with_reducible refine Ops.nil ?_ | with_reducible refine W.region ?_ | refine z_p (kk := ?_) | refine z_a (kk := ?_) | refine z_y (kk := ?_) | refine z_n (kk := ?_) | refine z_u (kk := ?_) | with_reducible refine W.skip ?_ | with_reducible refine W.endb ?_ | with_reducible refine W.block ?_ | refine W.exit rfl ?_ | refine z_l (kk := ?_) | refine z_f (kk := ?_) | refine z_M (kk := ?_) | refine z_m (kk := ?_) | refine z_e (kk := ?_) | refine z_E (kk := ?_) | refine z_d (kk := ?_)))
  exact W.fret rfl ⟨rfl, rfl⟩
def costV (b : Bool) : Int := if b then 1 else 1099511627776
theorem cost_c (b : Bool) (w : World) : Calls Try.prog 59 #[.bool b] w (Ret fun v w' => v = .int .i64 (costV b) ∧ w' = w) := by
  refine calls_W (vs := [_]) Try.func59 rfl (by kernel_rfl) rfl ?_
  (repeat (first | with_reducible refine W.seq ?_ | with_reducible refine Ops.nil ?_ | with_reducible refine W.region ?_ | refine z_p (kk := ?_) | refine z_a (kk := ?_) | refine z_y (kk := ?_) | refine z_n (kk := ?_) | refine z_u (kk := ?_) | with_reducible refine W.skip ?_ | with_reducible refine W.endb ?_ | with_reducible refine W.block ?_ | refine W.exit rfl ?_ | refine z_l (kk := ?_) | refine z_f (kk := ?_) | refine z_M (kk := ?_) | refine z_m (kk := ?_) | refine z_e (kk := ?_) | refine z_E (kk := ?_) | refine z_d (kk := ?_)))
  refine W.cond rfl (fun h => ?_) (fun h => ?_)
  · (repeat (first | with_reducible refine W.seq ?_ | with_reducible refine Ops.nil ?_ | with_reducible refine W.region ?_ | refine z_p (kk := ?_) | refine z_a (kk := ?_) | refine z_y (kk := ?_) | refine z_n (kk := ?_) | refine z_u (kk := ?_) | with_reducible refine W.skip ?_ | with_reducible refine W.endb ?_ | with_reducible refine W.block ?_ | refine W.exit rfl ?_ | refine z_l (kk := ?_) | refine z_f (kk := ?_) | refine z_M (kk := ?_) | refine z_m (kk := ?_) | refine z_e (kk := ?_) | refine z_E (kk := ?_) | refine z_d (kk := ?_)))
    exact W.fret rfl ⟨by rw [h]; rfl, rfl⟩
  · (repeat (first | with_reducible refine W.seq ?_ | with_reducible refine Ops.nil ?_ | with_reducible refine W.region ?_ | refine z_p (kk := ?_) | refine z_a (kk := ?_) | refine z_y (kk := ?_) | refine z_n (kk := ?_) | refine z_u (kk := ?_) | with_reducible refine W.skip ?_ | with_reducible refine W.endb ?_ | with_reducible refine W.block ?_ | refine W.exit rfl ?_ | refine z_l (kk := ?_) | refine z_f (kk := ?_) | refine z_M (kk := ?_) | refine z_m (kk := ?_) | refine z_e (kk := ?_) | refine z_E (kk := ?_) | refine z_d (kk := ?_)))
    exact W.fret rfl ⟨by rw [h]; rfl, rfl⟩
theorem isBound_c (b : Int) (w : World) : Calls Try.prog 56 #[.int .i64 b] w (Ret fun v w' => v = .bool (decide (-1000 ≤ b) && decide (b ≤ 1000)) ∧ w' = w) := by
  refine calls_W (vs := [_]) Try.func56 rfl (by kernel_rfl) rfl ?_
  (repeat (first | with_reducible refine W.seq ?_ | with_reducible refine Ops.nil ?_ | with_reducible refine W.region ?_ | refine z_p (kk := ?_) | refine z_a (kk := ?_) | refine z_y (kk := ?_) | refine z_n (kk := ?_) | refine z_u (kk := ?_) | with_reducible refine W.skip ?_ | with_reducible refine W.endb ?_ | with_reducible refine W.block ?_ | refine W.exit rfl ?_ | refine z_l (kk := ?_) | refine z_f (kk := ?_) | refine z_M (kk := ?_) | refine z_m (kk := ?_) | refine z_e (kk := ?_) | refine z_E (kk := ?_) | refine z_d (kk := ?_)))
  refine Ops.callS rfl rfl rfl rfl rfl (within_c _ _ _ _) ?_
  (repeat (first | with_reducible refine W.seq ?_ | with_reducible refine Ops.nil ?_ | with_reducible refine W.region ?_ | refine z_p (kk := ?_) | refine z_a (kk := ?_) | refine z_y (kk := ?_) | refine z_n (kk := ?_) | refine z_u (kk := ?_) | with_reducible refine W.skip ?_ | with_reducible refine W.endb ?_ | with_reducible refine W.block ?_ | refine W.exit rfl ?_ | refine z_l (kk := ?_) | refine z_f (kk := ?_) | refine z_M (kk := ?_) | refine z_m (kk := ?_) | refine z_e (kk := ?_) | refine z_E (kk := ?_) | refine z_d (kk := ?_)))
  exact W.fret rfl ⟨rfl, rfl⟩
/-- Variables of one cell that a closure has taken. -/
def Box (w : World) (b : Nat) (v : Value) (t : Nat) : Prop := Blk w b #[v] t
theorem proof1_c {w : World} {g bg bb : Nat} {l : List Nd} {dep : List Int} {b : Int} (hG : Game w g l dep) (h1 : Blk w bg #[.pointer (some ⟨g, 0, none⟩)] 69) (h2 : Blk w bb #[.int .i64 b] 3) (i : Int) (h0 : 0 ≤ i) (hi : i < l.length) :
    Calls Try.prog 58 #[.int .i64 i, .pointer (some ⟨bg, 0, none⟩), .pointer (some ⟨bb, 0, none⟩)] w (Ret fun v w' => v = .int .i64 (costV (decide (b ≤ wor l i))) ∧ Below w.heap.size w w') := by
  refine calls_W (vs := [_, _, _]) Try.func58 rfl (by kernel_rfl) rfl ?_
  (repeat (first | with_reducible refine W.seq ?_ | with_reducible refine Ops.nil ?_ | with_reducible refine W.region ?_ | refine z_p (kk := ?_) | refine z_a (kk := ?_) | refine z_y (kk := ?_) | refine z_n (kk := ?_) | refine z_u (kk := ?_) | with_reducible refine W.skip ?_ | with_reducible refine W.endb ?_ | with_reducible refine W.block ?_ | refine W.exit rfl ?_ | refine z_l (kk := ?_) | refine z_f (kk := ?_) | refine z_M (kk := ?_) | refine z_m (kk := ?_) | refine z_e (kk := ?_) | refine z_E (kk := ?_) | refine z_d (kk := ?_)))
  refine W.still' rfl (by kernel_rfl) (fun w1 k1 _ => ?_)
  have h1' := h1.kp k1 (fun e => e)
  have h2' := h2.kp k1 (fun e => e)
  have hG' := hG.below (k1.below (Nat.le_refl _) (fun _ _ e => e))
  (repeat (first | with_reducible refine W.seq ?_ | with_reducible refine Ops.nil ?_ | with_reducible refine W.region ?_ | refine z_p (kk := ?_) | refine z_a (kk := ?_) | refine z_y (kk := ?_) | refine z_n (kk := ?_) | refine z_u (kk := ?_) | with_reducible refine W.skip ?_ | with_reducible refine W.endb ?_ | with_reducible refine W.block ?_ | refine W.exit rfl ?_ | refine z_l (kk := ?_) | refine z_f (kk := ?_) | refine z_M (kk := ?_) | refine z_m (kk := ?_) | refine z_e (kk := ?_) | refine z_E (kk := ?_) | refine z_d (kk := ?_)))
  refine Ops.callS rfl rfl rfl rfl rfl (worth_c hG' i h0 hi) ?_
  (repeat (first | with_reducible refine W.seq ?_ | with_reducible refine Ops.nil ?_ | with_reducible refine W.region ?_ | refine z_p (kk := ?_) | refine z_a (kk := ?_) | refine z_y (kk := ?_) | refine z_n (kk := ?_) | refine z_u (kk := ?_) | with_reducible refine W.skip ?_ | with_reducible refine W.endb ?_ | with_reducible refine W.block ?_ | refine W.exit rfl ?_ | refine z_l (kk := ?_) | refine z_f (kk := ?_) | refine z_M (kk := ?_) | refine z_m (kk := ?_) | refine z_e (kk := ?_) | refine z_E (kk := ?_) | refine z_d (kk := ?_)))
  refine Ops.callS rfl rfl rfl rfl rfl (cost_c _ _) ?_
  (repeat (first | with_reducible refine W.seq ?_ | with_reducible refine Ops.nil ?_ | with_reducible refine W.region ?_ | refine z_p (kk := ?_) | refine z_a (kk := ?_) | refine z_y (kk := ?_) | refine z_n (kk := ?_) | refine z_u (kk := ?_) | with_reducible refine W.skip ?_ | with_reducible refine W.endb ?_ | with_reducible refine W.block ?_ | refine W.exit rfl ?_ | refine z_l (kk := ?_) | refine z_f (kk := ?_) | refine z_M (kk := ?_) | refine z_m (kk := ?_) | refine z_e (kk := ?_) | refine z_E (kk := ?_) | refine z_d (kk := ?_)))
  refine Ops.nilS rfl ?_
  (repeat (first | with_reducible refine W.seq ?_ | with_reducible refine Ops.nil ?_ | with_reducible refine W.region ?_ | refine z_p (kk := ?_) | refine z_a (kk := ?_) | refine z_y (kk := ?_) | refine z_n (kk := ?_) | refine z_u (kk := ?_) | with_reducible refine W.skip ?_ | with_reducible refine W.endb ?_ | with_reducible refine W.block ?_ | refine W.exit rfl ?_ | refine z_l (kk := ?_) | refine z_f (kk := ?_) | refine z_M (kk := ?_) | refine z_m (kk := ?_) | refine z_e (kk := ?_) | refine z_E (kk := ?_) | refine z_d (kk := ?_)))
  exact W.fret rfl ⟨rfl, k1.below (Nat.le_refl _) (fun _ _ e => e)⟩
theorem refute1_c {w : World} {g bg bb : Nat} {l : List Nd} {dep : List Int} {b : Int} (hG : Game w g l dep) (h1 : Blk w bg #[.pointer (some ⟨g, 0, none⟩)] 69) (h2 : Blk w bb #[.int .i64 b] 3) (i : Int) (h0 : 0 ≤ i) (hi : i < l.length) :
    Calls Try.prog 61 #[.int .i64 i, .pointer (some ⟨bg, 0, none⟩), .pointer (some ⟨bb, 0, none⟩)] w (Ret fun v w' => v = .int .i64 (costV (decide (wor l i ≤ b))) ∧ Below w.heap.size w w') := by
  refine calls_W (vs := [_, _, _]) Try.func61 rfl (by kernel_rfl) rfl ?_
  (repeat (first | with_reducible refine W.seq ?_ | with_reducible refine Ops.nil ?_ | with_reducible refine W.region ?_ | refine z_p (kk := ?_) | refine z_a (kk := ?_) | refine z_y (kk := ?_) | refine z_n (kk := ?_) | refine z_u (kk := ?_) | with_reducible refine W.skip ?_ | with_reducible refine W.endb ?_ | with_reducible refine W.block ?_ | refine W.exit rfl ?_ | refine z_l (kk := ?_) | refine z_f (kk := ?_) | refine z_M (kk := ?_) | refine z_m (kk := ?_) | refine z_e (kk := ?_) | refine z_E (kk := ?_) | refine z_d (kk := ?_)))
  refine W.still' rfl (by kernel_rfl) (fun w1 k1 _ => ?_)
  have h1' := h1.kp k1 (fun e => e)
  have h2' := h2.kp k1 (fun e => e)
  have hG' := hG.below (k1.below (Nat.le_refl _) (fun _ _ e => e))
  (repeat (first | with_reducible refine W.seq ?_ | with_reducible refine Ops.nil ?_ | with_reducible refine W.region ?_ | refine z_p (kk := ?_) | refine z_a (kk := ?_) | refine z_y (kk := ?_) | refine z_n (kk := ?_) | refine z_u (kk := ?_) | with_reducible refine W.skip ?_ | with_reducible refine W.endb ?_ | with_reducible refine W.block ?_ | refine W.exit rfl ?_ | refine z_l (kk := ?_) | refine z_f (kk := ?_) | refine z_M (kk := ?_) | refine z_m (kk := ?_) | refine z_e (kk := ?_) | refine z_E (kk := ?_) | refine z_d (kk := ?_)))
  refine Ops.callS rfl rfl rfl rfl rfl (worth_c hG' i h0 hi) ?_
  (repeat (first | with_reducible refine W.seq ?_ | with_reducible refine Ops.nil ?_ | with_reducible refine W.region ?_ | refine z_p (kk := ?_) | refine z_a (kk := ?_) | refine z_y (kk := ?_) | refine z_n (kk := ?_) | refine z_u (kk := ?_) | with_reducible refine W.skip ?_ | with_reducible refine W.endb ?_ | with_reducible refine W.block ?_ | refine W.exit rfl ?_ | refine z_l (kk := ?_) | refine z_f (kk := ?_) | refine z_M (kk := ?_) | refine z_m (kk := ?_) | refine z_e (kk := ?_) | refine z_E (kk := ?_) | refine z_d (kk := ?_)))
  refine Ops.callS rfl rfl rfl rfl rfl (cost_c _ _) ?_
  (repeat (first | with_reducible refine W.seq ?_ | with_reducible refine Ops.nil ?_ | with_reducible refine W.region ?_ | refine z_p (kk := ?_) | refine z_a (kk := ?_) | refine z_y (kk := ?_) | refine z_n (kk := ?_) | refine z_u (kk := ?_) | with_reducible refine W.skip ?_ | with_reducible refine W.endb ?_ | with_reducible refine W.block ?_ | refine W.exit rfl ?_ | refine z_l (kk := ?_) | refine z_f (kk := ?_) | refine z_M (kk := ?_) | refine z_m (kk := ?_) | refine z_e (kk := ?_) | refine z_E (kk := ?_) | refine z_d (kk := ?_)))
  refine Ops.nilS rfl ?_
  (repeat (first | with_reducible refine W.seq ?_ | with_reducible refine Ops.nil ?_ | with_reducible refine W.region ?_ | refine z_p (kk := ?_) | refine z_a (kk := ?_) | refine z_y (kk := ?_) | refine z_n (kk := ?_) | refine z_u (kk := ?_) | with_reducible refine W.skip ?_ | with_reducible refine W.endb ?_ | with_reducible refine W.block ?_ | refine W.exit rfl ?_ | refine z_l (kk := ?_) | refine z_f (kk := ?_) | refine z_M (kk := ?_) | refine z_m (kk := ?_) | refine z_e (kk := ?_) | refine z_E (kk := ?_) | refine z_d (kk := ?_)))
  exact W.fret rfl ⟨rfl, k1.below (Nat.le_refl _) (fun _ _ e => e)⟩
/-- The first child with the value of the node; -1: none. -/
def bestM (vs : List Int) (x : Int) : List Int → Int
  | [] => -1
  | c :: r => if rd vs c = x then c else bestM vs x r
theorem best_c {w : World} {g : Nat} {l : List Nd} {dep vs : List Int} {v : Value} (hG : Game w g l dep) (hv : SlI w v vs) (hvl : vs.length = l.length) (i : Int) (h0 : 0 ≤ i) (h1 : i < l.length)
    (hk : ∀ j, j < (kid l i).length → 0 ≤ (kid l i).getD j 0 ∧ (kid l i).getD j 0 < l.length) :
    Calls Try.prog 76 #[.pointer (some ⟨g, 0, none⟩), v, .int .i64 i] w (Ret fun r w' => r = .int .i64 (bestM vs (rd vs i) (kid l i)) ∧ Below w.heap.size w w') := by
  obtain ⟨tv, dv, hB, hT, hD⟩ := hG.out
  refine calls_W (vs := [_, _, _]) Try.func76 rfl (by kernel_rfl) rfl ?_
  (repeat (first | with_reducible refine W.seq ?_ | with_reducible refine Ops.nil ?_ | with_reducible refine W.region ?_ | refine z_p (kk := ?_) | refine z_a (kk := ?_) | refine z_y (kk := ?_) | refine z_n (kk := ?_) | refine z_u (kk := ?_) | with_reducible refine W.skip ?_ | with_reducible refine W.endb ?_ | with_reducible refine W.block ?_ | refine W.exit rfl ?_ | refine z_l (kk := ?_) | refine z_f (kk := ?_) | refine z_M (kk := ?_) | refine z_m (kk := ?_) | refine z_e (kk := ?_) | refine z_E (kk := ?_) | refine z_d (kk := ?_)))
  refine Ops.rdK rfl rfl rfl rfl rfl rfl rfl rfl rfl rfl rfl rfl rfl rfl rfl hT (Below.refl _ _) h0 h1 (fun cv p q hcv => ?_)
  have hcl := Sl.len hcv
  obtain ⟨A, c, rfl⟩ := Sl.sl hcv
  (repeat (first | with_reducible refine W.seq ?_ | with_reducible refine Ops.nil ?_ | with_reducible refine W.region ?_ | refine z_p (kk := ?_) | refine z_a (kk := ?_) | refine z_y (kk := ?_) | refine z_n (kk := ?_) | refine z_u (kk := ?_) | with_reducible refine W.skip ?_ | with_reducible refine W.endb ?_ | with_reducible refine W.block ?_ | refine W.exit rfl ?_ | refine z_l (kk := ?_) | refine z_f (kk := ?_) | refine z_M (kk := ?_) | refine z_m (kk := ?_) | refine z_e (kk := ?_) | refine z_E (kk := ?_) | refine z_d (kk := ?_)))
  refine W.loop (fun m ρ w1 => ∃ j : Nat, m = (kid l i).length - j ∧ j ≤ (kid l i).length ∧ ρ = [(1, v), (2, .int .i64 i), (16, .slice A (kid l i).length c), (17, .int .i64 (kid l i).length), (18, .int .i64 j)] ∧ Below w.heap.size w w1 ∧ bestM vs (rd vs i) ((kid l i).drop j) = bestM vs (rd vs i) (kid l i))
    ⟨_, _, ⟨0, rfl, Nat.zero_le _, rfl, Below.refl _ _, rfl⟩, (by repeat (first | exact trivial | refine And.intro rfl ?_))⟩ ?_
  rintro m ρ w1 ⟨j, rfl, hj, rfl, hb, hR⟩
  (repeat (first | with_reducible refine W.seq ?_ | with_reducible refine Ops.nil ?_ | with_reducible refine W.region ?_ | refine z_p (kk := ?_) | refine z_a (kk := ?_) | refine z_y (kk := ?_) | refine z_n (kk := ?_) | refine z_u (kk := ?_) | with_reducible refine W.skip ?_ | with_reducible refine W.endb ?_ | with_reducible refine W.block ?_ | refine W.exit rfl ?_ | refine z_l (kk := ?_) | refine z_f (kk := ?_) | refine z_M (kk := ?_) | refine z_m (kk := ?_) | refine z_e (kk := ?_) | refine z_E (kk := ?_) | refine z_d (kk := ?_)))
  refine W.cond rfl (fun hc => ?_) (fun hc => ?_)
  · have hlt : j < (kid l i).length := by simp at hc; omega
    (repeat (first | with_reducible refine W.seq ?_ | with_reducible refine Ops.nil ?_ | with_reducible refine W.region ?_ | refine z_p (kk := ?_) | refine z_a (kk := ?_) | refine z_y (kk := ?_) | refine z_n (kk := ?_) | refine z_u (kk := ?_) | with_reducible refine W.skip ?_ | with_reducible refine W.endb ?_ | with_reducible refine W.block ?_ | refine W.exit rfl ?_ | refine z_l (kk := ?_) | refine z_f (kk := ?_) | refine z_M (kk := ?_) | refine z_m (kk := ?_) | refine z_e (kk := ?_) | refine z_E (kk := ?_) | refine z_d (kk := ?_)))
    refine Ops.rdS (enc := Value.int .i64) (z := (0 : Int)) rfl rfl rfl rfl rfl rfl rfl rfl rfl rfl rfl (Sl.below hcv hb) (by omega) (by omega) (fun p => ?_)
    simp only [Int.toNat_natCast]
    rw [Go.Proofs.Ytdiljpnfochndaa.HP.drop_get _ _ (0 : Int) hlt] at hR
    have hkj := hk j hlt
    generalize (kid l i).getD j 0 = cj at *
    (repeat (first | with_reducible refine W.seq ?_ | with_reducible refine Ops.nil ?_ | with_reducible refine W.region ?_ | refine z_p (kk := ?_) | refine z_a (kk := ?_) | refine z_y (kk := ?_) | refine z_n (kk := ?_) | refine z_u (kk := ?_) | with_reducible refine W.skip ?_ | with_reducible refine W.endb ?_ | with_reducible refine W.block ?_ | refine W.exit rfl ?_ | refine z_l (kk := ?_) | refine z_f (kk := ?_) | refine z_M (kk := ?_) | refine z_m (kk := ?_) | refine z_e (kk := ?_) | refine z_E (kk := ?_) | refine z_d (kk := ?_)))
    refine W.still' rfl (by kernel_rfl) (fun w2 k2 _ => ?_)
    have hb2 : Below w.heap.size w w2 := Below.at_ hb k2 (fun _ e => e.elim)
    (repeat (first | with_reducible refine W.seq ?_ | with_reducible refine Ops.nil ?_ | with_reducible refine W.region ?_ | refine z_p (kk := ?_) | refine z_a (kk := ?_) | refine z_y (kk := ?_) | refine z_n (kk := ?_) | refine z_u (kk := ?_) | with_reducible refine W.skip ?_ | with_reducible refine W.endb ?_ | with_reducible refine W.block ?_ | refine W.exit rfl ?_ | refine z_l (kk := ?_) | refine z_f (kk := ?_) | refine z_M (kk := ?_) | refine z_m (kk := ?_) | refine z_e (kk := ?_) | refine z_E (kk := ?_) | refine z_d (kk := ?_)))
    refine Ops.rdS (enc := Value.int .i64) (z := (0 : Int)) rfl rfl rfl rfl rfl rfl rfl rfl rfl rfl rfl (Sl.below hv hb2) (by omega) (by omega) (fun p => ?_)
    (repeat (first | with_reducible refine W.seq ?_ | with_reducible refine Ops.nil ?_ | with_reducible refine W.region ?_ | refine z_p (kk := ?_) | refine z_a (kk := ?_) | refine z_y (kk := ?_) | refine z_n (kk := ?_) | refine z_u (kk := ?_) | with_reducible refine W.skip ?_ | with_reducible refine W.endb ?_ | with_reducible refine W.block ?_ | refine W.exit rfl ?_ | refine z_l (kk := ?_) | refine z_f (kk := ?_) | refine z_M (kk := ?_) | refine z_m (kk := ?_) | refine z_e (kk := ?_) | refine z_E (kk := ?_) | refine z_d (kk := ?_)))
    refine Ops.rdS (enc := Value.int .i64) (z := (0 : Int)) rfl rfl rfl rfl rfl rfl rfl rfl rfl rfl rfl (Sl.below hv hb2) (by omega) (by omega) (fun p => ?_)
    (repeat (first | with_reducible refine W.seq ?_ | with_reducible refine Ops.nil ?_ | with_reducible refine W.region ?_ | refine z_p (kk := ?_) | refine z_a (kk := ?_) | refine z_y (kk := ?_) | refine z_n (kk := ?_) | refine z_u (kk := ?_) | with_reducible refine W.skip ?_ | with_reducible refine W.endb ?_ | with_reducible refine W.block ?_ | refine W.exit rfl ?_ | refine z_l (kk := ?_) | refine z_f (kk := ?_) | refine z_M (kk := ?_) | refine z_m (kk := ?_) | refine z_e (kk := ?_) | refine z_E (kk := ?_) | refine z_d (kk := ?_)))
    refine Ops.nilS rfl ?_
    (repeat (first | with_reducible refine W.seq ?_ | with_reducible refine Ops.nil ?_ | with_reducible refine W.region ?_ | refine z_p (kk := ?_) | refine z_a (kk := ?_) | refine z_y (kk := ?_) | refine z_n (kk := ?_) | refine z_u (kk := ?_) | with_reducible refine W.skip ?_ | with_reducible refine W.endb ?_ | with_reducible refine W.block ?_ | refine W.exit rfl ?_ | refine z_l (kk := ?_) | refine z_f (kk := ?_) | refine z_M (kk := ?_) | refine z_m (kk := ?_) | refine z_e (kk := ?_) | refine z_E (kk := ?_) | refine z_d (kk := ?_)))
    simp only [bestM] at hR
    refine W.cond rfl (fun hc => ?_) (fun hc => ?_)
    · (repeat (first | with_reducible refine W.seq ?_ | with_reducible refine Ops.nil ?_ | with_reducible refine W.region ?_ | refine z_p (kk := ?_) | refine z_a (kk := ?_) | refine z_y (kk := ?_) | refine z_n (kk := ?_) | refine z_u (kk := ?_) | with_reducible refine W.skip ?_ | with_reducible refine W.endb ?_ | with_reducible refine W.block ?_ | refine W.exit rfl ?_ | refine z_l (kk := ?_) | refine z_f (kk := ?_) | refine z_M (kk := ?_) | refine z_m (kk := ?_) | refine z_e (kk := ?_) | refine z_E (kk := ?_) | refine z_d (kk := ?_)))
      rw [if_pos (by simpa [rd] using hc)] at hR
      exact W.fret rfl ⟨by rw [← hR]; rfl, hb2⟩
    · rw [if_neg (by simpa [rd] using hc)] at hR
      (repeat (first | with_reducible refine W.seq ?_ | with_reducible refine Ops.nil ?_ | with_reducible refine W.region ?_ | refine z_p (kk := ?_) | refine z_a (kk := ?_) | refine z_y (kk := ?_) | refine z_n (kk := ?_) | refine z_u (kk := ?_) | with_reducible refine W.skip ?_ | with_reducible refine W.endb ?_ | with_reducible refine W.block ?_ | refine W.exit rfl ?_ | refine z_l (kk := ?_) | refine z_f (kk := ?_) | refine z_M (kk := ?_) | refine z_m (kk := ?_) | refine z_e (kk := ?_) | refine z_E (kk := ?_) | refine z_d (kk := ?_)))
      exact W.endl ⟨_, _, ⟨⟨j + 1, rfl, by omega, rfl, hb2, hR⟩, by omega⟩, (by repeat (first | exact trivial | refine And.intro rfl ?_))⟩
  · have hlt : j = (kid l i).length := by simp at hc; omega
    subst hlt
    rw [List.drop_length] at hR
    (repeat (first | with_reducible refine W.seq ?_ | with_reducible refine Ops.nil ?_ | with_reducible refine W.region ?_ | refine z_p (kk := ?_) | refine z_a (kk := ?_) | refine z_y (kk := ?_) | refine z_n (kk := ?_) | refine z_u (kk := ?_) | with_reducible refine W.skip ?_ | with_reducible refine W.endb ?_ | with_reducible refine W.block ?_ | refine W.exit rfl ?_ | refine z_l (kk := ?_) | refine z_f (kk := ?_) | refine z_M (kk := ?_) | refine z_m (kk := ?_) | refine z_e (kk := ?_) | refine z_E (kk := ?_) | refine z_d (kk := ?_)))
    exact W.fret rfl ⟨by rw [← hR]; rfl, hb⟩
end Go.Proofs.Ytdiljpnfochndaa
namespace Go.Proofs.Ytdiljpnfochndaa
open Go Go.RowKit Go.Proofs.Ytdiljpnfochndaa.VW
open Go.Proofs.Ytdiljpnfochndaa.HP (Nd kid wor leafB rd evB TF maxL minL NV ValP maxL_take minL_take maxL_one minL_one)
attribute [local irreducible] W Ops
theorem max_c {w : World} {v : Value} {xs : List Int} (hv : SlI w v xs) (hp : 0 < xs.length) : Calls Try.prog 92 #[v] w (Ret fun r w' => r = .int .i64 (maxL xs) ∧ w' = w) := by
  have hl := Sl.len hv
  have hv0 := hv
  obtain ⟨A, c, rfl⟩ := Sl.sl hv
  refine calls_W (vs := [_]) Try.func92 rfl (by kernel_rfl) rfl ?_
  (repeat (first | with_reducible refine W.seq ?_ | with_reducible refine Ops.nil ?_ | with_reducible refine W.region ?_ | refine z_p (kk := ?_) | refine z_a (kk := ?_) | refine z_y (kk := ?_) | refine z_n (kk := ?_) | refine z_u (kk := ?_) | with_reducible refine W.skip ?_ | with_reducible refine W.endb ?_ | with_reducible refine W.block ?_ | refine W.exit rfl ?_ | refine z_l (kk := ?_) | refine z_f (kk := ?_) | refine z_M (kk := ?_) | refine z_m (kk := ?_) | refine z_e (kk := ?_) | refine z_E (kk := ?_) | refine z_d (kk := ?_)))
  refine W.cond rfl (fun hc => ?_) (fun hc => ?_)
  · simp at hc; omega
  (repeat (first | with_reducible refine W.seq ?_ | with_reducible refine Ops.nil ?_ | with_reducible refine W.region ?_ | refine z_p (kk := ?_) | refine z_a (kk := ?_) | refine z_y (kk := ?_) | refine z_n (kk := ?_) | refine z_u (kk := ?_) | with_reducible refine W.skip ?_ | with_reducible refine W.endb ?_ | with_reducible refine W.block ?_ | refine W.exit rfl ?_ | refine z_l (kk := ?_) | refine z_f (kk := ?_) | refine z_M (kk := ?_) | refine z_m (kk := ?_) | refine z_e (kk := ?_) | refine z_E (kk := ?_) | refine z_d (kk := ?_)))
  refine Ops.rdS (enc := Value.int .i64) (z := (0 : Int)) rfl rfl rfl rfl rfl rfl rfl rfl rfl rfl rfl hv0 (by omega) (by omega) (fun p => ?_)
  (repeat (first | with_reducible refine W.seq ?_ | with_reducible refine Ops.nil ?_ | with_reducible refine W.region ?_ | refine z_p (kk := ?_) | refine z_a (kk := ?_) | refine z_y (kk := ?_) | refine z_n (kk := ?_) | refine z_u (kk := ?_) | with_reducible refine W.skip ?_ | with_reducible refine W.endb ?_ | with_reducible refine W.block ?_ | refine W.exit rfl ?_ | refine z_l (kk := ?_) | refine z_f (kk := ?_) | refine z_M (kk := ?_) | refine z_m (kk := ?_) | refine z_e (kk := ?_) | refine z_E (kk := ?_) | refine z_d (kk := ?_)))
  refine W.loop (fun m ρ w1 => ∃ j : Nat, m = xs.length - j ∧ 1 ≤ j ∧ j ≤ xs.length ∧ ρ = [(0, .slice A xs.length c), (3, .int .i64 (maxL (xs.take j))), (4, .int .i64 j)] ∧ w1 = w)
    ⟨_, _, ⟨1, rfl, Nat.le_refl _, hp, rfl, rfl⟩, ⟨rfl, by rw [maxL_one xs hp]; rfl, rfl, trivial⟩⟩ ?_
  rintro m ρ w1 ⟨j, rfl, hj1, hj, rfl, rfl⟩
  (repeat (first | with_reducible refine W.seq ?_ | with_reducible refine Ops.nil ?_ | with_reducible refine W.region ?_ | refine z_p (kk := ?_) | refine z_a (kk := ?_) | refine z_y (kk := ?_) | refine z_n (kk := ?_) | refine z_u (kk := ?_) | with_reducible refine W.skip ?_ | with_reducible refine W.endb ?_ | with_reducible refine W.block ?_ | refine W.exit rfl ?_ | refine z_l (kk := ?_) | refine z_f (kk := ?_) | refine z_M (kk := ?_) | refine z_m (kk := ?_) | refine z_e (kk := ?_) | refine z_E (kk := ?_) | refine z_d (kk := ?_)))
  refine W.cond rfl (fun hc => ?_) (fun hc => ?_)
  · have hlt : j < xs.length := by simp at hc; omega
    (repeat (first | with_reducible refine W.seq ?_ | with_reducible refine Ops.nil ?_ | with_reducible refine W.region ?_ | refine z_p (kk := ?_) | refine z_a (kk := ?_) | refine z_y (kk := ?_) | refine z_n (kk := ?_) | refine z_u (kk := ?_) | with_reducible refine W.skip ?_ | with_reducible refine W.endb ?_ | with_reducible refine W.block ?_ | refine W.exit rfl ?_ | refine z_l (kk := ?_) | refine z_f (kk := ?_) | refine z_M (kk := ?_) | refine z_m (kk := ?_) | refine z_e (kk := ?_) | refine z_E (kk := ?_) | refine z_d (kk := ?_)))
    refine Ops.rdS (enc := Value.int .i64) (z := (0 : Int)) rfl rfl rfl rfl rfl rfl rfl rfl rfl rfl rfl hv0 (by omega) (by omega) (fun p => ?_)
    (repeat (first | with_reducible refine W.seq ?_ | with_reducible refine Ops.nil ?_ | with_reducible refine W.region ?_ | refine z_p (kk := ?_) | refine z_a (kk := ?_) | refine z_y (kk := ?_) | refine z_n (kk := ?_) | refine z_u (kk := ?_) | with_reducible refine W.skip ?_ | with_reducible refine W.endb ?_ | with_reducible refine W.block ?_ | refine W.exit rfl ?_ | refine z_l (kk := ?_) | refine z_f (kk := ?_) | refine z_M (kk := ?_) | refine z_m (kk := ?_) | refine z_e (kk := ?_) | refine z_E (kk := ?_) | refine z_d (kk := ?_)))
    simp only [Int.toNat_natCast]
    exact W.endl ⟨_, _, ⟨⟨j + 1, rfl, by omega, by omega, rfl, rfl⟩, by omega⟩, ⟨rfl, by rw [maxL_take xs j hj1 hlt]; rfl, rfl, trivial⟩⟩
  · have hlt : j = xs.length := by simp at hc; omega
    subst hlt
    (repeat (first | with_reducible refine W.seq ?_ | with_reducible refine Ops.nil ?_ | with_reducible refine W.region ?_ | refine z_p (kk := ?_) | refine z_a (kk := ?_) | refine z_y (kk := ?_) | refine z_n (kk := ?_) | refine z_u (kk := ?_) | with_reducible refine W.skip ?_ | with_reducible refine W.endb ?_ | with_reducible refine W.block ?_ | refine W.exit rfl ?_ | refine z_l (kk := ?_) | refine z_f (kk := ?_) | refine z_M (kk := ?_) | refine z_m (kk := ?_) | refine z_e (kk := ?_) | refine z_E (kk := ?_) | refine z_d (kk := ?_)))
    exact W.fret rfl ⟨by rw [List.take_length]; rfl, rfl⟩
theorem min_c {w : World} {v : Value} {xs : List Int} (hv : SlI w v xs) (hp : 0 < xs.length) : Calls Try.prog 93 #[v] w (Ret fun r w' => r = .int .i64 (minL xs) ∧ w' = w) := by
  have hl := Sl.len hv
  have hv0 := hv
  obtain ⟨A, c, rfl⟩ := Sl.sl hv
  refine calls_W (vs := [_]) Try.func93 rfl (by kernel_rfl) rfl ?_
  (repeat (first | with_reducible refine W.seq ?_ | with_reducible refine Ops.nil ?_ | with_reducible refine W.region ?_ | refine z_p (kk := ?_) | refine z_a (kk := ?_) | refine z_y (kk := ?_) | refine z_n (kk := ?_) | refine z_u (kk := ?_) | with_reducible refine W.skip ?_ | with_reducible refine W.endb ?_ | with_reducible refine W.block ?_ | refine W.exit rfl ?_ | refine z_l (kk := ?_) | refine z_f (kk := ?_) | refine z_M (kk := ?_) | refine z_m (kk := ?_) | refine z_e (kk := ?_) | refine z_E (kk := ?_) | refine z_d (kk := ?_)))
  refine W.cond rfl (fun hc => ?_) (fun hc => ?_)
  · simp at hc; omega
  (repeat (first | with_reducible refine W.seq ?_ | with_reducible refine Ops.nil ?_ | with_reducible refine W.region ?_ | refine z_p (kk := ?_) | refine z_a (kk := ?_) | refine z_y (kk := ?_) | refine z_n (kk := ?_) | refine z_u (kk := ?_) | with_reducible refine W.skip ?_ | with_reducible refine W.endb ?_ | with_reducible refine W.block ?_ | refine W.exit rfl ?_ | refine z_l (kk := ?_) | refine z_f (kk := ?_) | refine z_M (kk := ?_) | refine z_m (kk := ?_) | refine z_e (kk := ?_) | refine z_E (kk := ?_) | refine z_d (kk := ?_)))
  refine Ops.rdS (enc := Value.int .i64) (z := (0 : Int)) rfl rfl rfl rfl rfl rfl rfl rfl rfl rfl rfl hv0 (by omega) (by omega) (fun p => ?_)
  (repeat (first | with_reducible refine W.seq ?_ | with_reducible refine Ops.nil ?_ | with_reducible refine W.region ?_ | refine z_p (kk := ?_) | refine z_a (kk := ?_) | refine z_y (kk := ?_) | refine z_n (kk := ?_) | refine z_u (kk := ?_) | with_reducible refine W.skip ?_ | with_reducible refine W.endb ?_ | with_reducible refine W.block ?_ | refine W.exit rfl ?_ | refine z_l (kk := ?_) | refine z_f (kk := ?_) | refine z_M (kk := ?_) | refine z_m (kk := ?_) | refine z_e (kk := ?_) | refine z_E (kk := ?_) | refine z_d (kk := ?_)))
  refine W.loop (fun m ρ w1 => ∃ j : Nat, m = xs.length - j ∧ 1 ≤ j ∧ j ≤ xs.length ∧ ρ = [(0, .slice A xs.length c), (3, .int .i64 (minL (xs.take j))), (4, .int .i64 j)] ∧ w1 = w)
    ⟨_, _, ⟨1, rfl, Nat.le_refl _, hp, rfl, rfl⟩, ⟨rfl, by rw [minL_one xs hp]; rfl, rfl, trivial⟩⟩ ?_
  rintro m ρ w1 ⟨j, rfl, hj1, hj, rfl, rfl⟩
  (repeat (first | with_reducible refine W.seq ?_ | with_reducible refine Ops.nil ?_ | with_reducible refine W.region ?_ | refine z_p (kk := ?_) | refine z_a (kk := ?_) | refine z_y (kk := ?_) | refine z_n (kk := ?_) | refine z_u (kk := ?_) | with_reducible refine W.skip ?_ | with_reducible refine W.endb ?_ | with_reducible refine W.block ?_ | refine W.exit rfl ?_ | refine z_l (kk := ?_) | refine z_f (kk := ?_) | refine z_M (kk := ?_) | refine z_m (kk := ?_) | refine z_e (kk := ?_) | refine z_E (kk := ?_) | refine z_d (kk := ?_)))
  refine W.cond rfl (fun hc => ?_) (fun hc => ?_)
  · have hlt : j < xs.length := by simp at hc; omega
    (repeat (first | with_reducible refine W.seq ?_ | with_reducible refine Ops.nil ?_ | with_reducible refine W.region ?_ | refine z_p (kk := ?_) | refine z_a (kk := ?_) | refine z_y (kk := ?_) | refine z_n (kk := ?_) | refine z_u (kk := ?_) | with_reducible refine W.skip ?_ | with_reducible refine W.endb ?_ | with_reducible refine W.block ?_ | refine W.exit rfl ?_ | refine z_l (kk := ?_) | refine z_f (kk := ?_) | refine z_M (kk := ?_) | refine z_m (kk := ?_) | refine z_e (kk := ?_) | refine z_E (kk := ?_) | refine z_d (kk := ?_)))
    refine Ops.rdS (enc := Value.int .i64) (z := (0 : Int)) rfl rfl rfl rfl rfl rfl rfl rfl rfl rfl rfl hv0 (by omega) (by omega) (fun p => ?_)
    (repeat (first | with_reducible refine W.seq ?_ | with_reducible refine Ops.nil ?_ | with_reducible refine W.region ?_ | refine z_p (kk := ?_) | refine z_a (kk := ?_) | refine z_y (kk := ?_) | refine z_n (kk := ?_) | refine z_u (kk := ?_) | with_reducible refine W.skip ?_ | with_reducible refine W.endb ?_ | with_reducible refine W.block ?_ | refine W.exit rfl ?_ | refine z_l (kk := ?_) | refine z_f (kk := ?_) | refine z_M (kk := ?_) | refine z_m (kk := ?_) | refine z_e (kk := ?_) | refine z_E (kk := ?_) | refine z_d (kk := ?_)))
    simp only [Int.toNat_natCast]
    exact W.endl ⟨_, _, ⟨⟨j + 1, rfl, by omega, by omega, rfl, rfl⟩, by omega⟩, ⟨rfl, by rw [minL_take xs j hj1 hlt]; rfl, rfl, trivial⟩⟩
  · have hlt : j = xs.length := by simp at hc; omega
    subst hlt
    (repeat (first | with_reducible refine W.seq ?_ | with_reducible refine Ops.nil ?_ | with_reducible refine W.region ?_ | refine z_p (kk := ?_) | refine z_a (kk := ?_) | refine z_y (kk := ?_) | refine z_n (kk := ?_) | refine z_u (kk := ?_) | with_reducible refine W.skip ?_ | with_reducible refine W.endb ?_ | with_reducible refine W.block ?_ | refine W.exit rfl ?_ | refine z_l (kk := ?_) | refine z_f (kk := ?_) | refine z_M (kk := ?_) | refine z_m (kk := ?_) | refine z_e (kk := ?_) | refine z_E (kk := ?_) | refine z_d (kk := ?_)))
    exact W.fret rfl ⟨by rw [List.take_length]; rfl, rfl⟩
/-- A function value from int to int that only reads. -/
structure Clo (w : World) (fv : Value) (wf : Int → Int) (ok : Int → Prop) : Prop where
  out : ∃ (f : Nat) (first cap : List Value), fv = .func (.func f) first.toArray cap.toArray ∧ memB (Fns.L Try.prog) f = true ∧
    ∀ i w', Below w.heap.size w w' → ok i → Calls Try.prog f (app3 first [.int .i64 i] cap).toArray w' (Ret fun v w'' => v = .int .i64 (wf i) ∧ Below w'.heap.size w' w'')
/-- What a loop that fills a slice of its own keeps. -/
structure FInv (w0 w : World) (ov : Value) (os : List Int) : Prop where
  bel : Below w0.heap.size w0 w
  own : w.ownsRow 0 3 1 ov os.length (os.map (Value.int .i64))
  ge : ∀ k, ov.ownBlock = some k → w0.heap.size ≤ k
theorem FInv.kp {w0 w w' : World} {ov : Value} {os : List Int} {S : Nat → Prop} (h : FInv w0 w ov os) (k : Kp S w w') (hs : ∀ i, S i → w0.heap.size ≤ i ∧ ov.ownBlock ≠ some i) : FInv w0 w' ov os :=
  ⟨Below.at_ h.bel k (fun i hi => (hs i hi).1), own_kp h.own k (fun i hi e => (hs i e).2 hi), h.ge⟩
theorem FInv.new {w0 w w' : World} {ov : Value} {os : List Int} {S : Nat → Prop} (h : FInv w0 w ov os) (k : Kp S w w') (hs : ∀ i, S i → w.heap.size ≤ i) : FInv w0 w' ov os :=
  h.kp k fun i hi => ⟨by have := h.bel.size; have := hs i hi; omega, fun e => by have := (h.own.lt i e).2; have := hs i hi; omega⟩
theorem FInv.wr {w0 w w' : World} {ov : Value} {os : List Int} {m q : Nat} {x : Int} (h : FInv w0 w ov os) (hm : m = os.length) (hown : w'.ownsRow 0 3 1 ov m ((os.map (Value.int .i64)).set q (.int .i64 x))) (k : Kp (fun b => ov.ownBlock = some b) w w') : FInv w0 w' ov (os.set q x) :=
  ⟨Below.at_ h.bel k (fun i hi => h.ge i hi), by rw [List.map_set, List.length_set, ← hm]; exact hown, h.ge⟩
theorem FInv.push {w0 w w' : World} {lv lv' : Value} {ls : List Int} {x : Int} (h : FInv w0 w lv ls) (hown : w'.ownsRow 0 3 1 lv' (ls.length + 1) (ls.map (Value.int .i64) ++ [.int .i64 x])) (k : Kp (fun b => lv.ownBlock = some b) w w')
    (hn : ∀ i, lv'.ownBlock = some i → lv.ownBlock = some i ∨ w.heap.size ≤ i) : FInv w0 w' lv' (ls ++ [x]) :=
  ⟨Below.at_ h.bel k (fun i hi => h.ge i hi), by simpa using hown, fun i hi => by rcases hn i hi with e | e; exact h.ge i e; have := h.bel.size; omega⟩
theorem FInv.nil {w0 w : World} (h : Below w0.heap.size w0 w) : FInv w0 w (.slice none 0 0) [] := ⟨h, World.ownsRow_nil w 0 3 1, fun k hk => by simp [Value.ownBlock] at hk⟩
theorem FInv.sl {w0 w : World} {ov : Value} {os : List Int} (h : FInv w0 w ov os) : SlI w ov os := own_sl (z := (0 : Int)) h.own
set_option maxRecDepth 100000 in
theorem values_c {w : World} {g : Nat} {l : List Nd} {dep : List Int} {fv : Value} {wf : Int → Int} (hG : Game w g l dep) (hT : TF l dep) (hf : Clo w fv wf (fun i => 0 ≤ i ∧ i < l.length ∧ leafB l i = true)) :
    Calls Try.prog 69 #[.pointer (some ⟨g, 0, none⟩), fv] w (Ret fun r w' => ∃ vs, ValP l dep wf vs ∧ FInv w w' r vs) := by
  obtain ⟨tv, dv, hB, hTr, hD⟩ := hG.out
  obtain ⟨At, ct, rfl⟩ := hTr.sl
  obtain ⟨f, first, cap, rfl, hfm, hfc⟩ := hf.out
  have hn := hT.n60
  refine calls_W (vs := [_, _]) Try.func69 rfl (by kernel_rfl) rfl ?_
  (repeat (first | with_reducible refine W.seq ?_ | with_reducible refine Ops.nil ?_ | with_reducible refine W.region ?_ | refine z_p (kk := ?_) | refine z_a (kk := ?_) | refine z_y (kk := ?_) | refine z_n (kk := ?_) | refine z_u (kk := ?_) | with_reducible refine W.skip ?_ | with_reducible refine W.endb ?_ | with_reducible refine W.block ?_ | refine W.exit rfl ?_ | refine z_l (kk := ?_) | refine z_f (kk := ?_) | refine z_M (kk := ?_) | refine z_m (kk := ?_) | refine z_e (kk := ?_) | refine z_E (kk := ?_) | refine z_d (kk := ?_)))
  refine Ops.mkS rfl rfl rfl rfl rfl rfl rfl rfl rfl (by omega) (by simp; omega) (fun w1 dr hdr k1 hdl hown => ?_)
  simp only [Int.toNat_natCast] at hown ⊢
  rw [show l.length * 1 = l.length from Nat.mul_one _, madeCells_one rfl] at hown
  have hI0 : FInv w w1 (.slice (some ⟨dr, 0, none⟩) l.length l.length) (List.replicate l.length 0) := by
    refine ⟨k1.below (Nat.le_refl _) (fun _ _ e => e), by simpa using hown, fun k hk => ?_⟩
    simp [Value.ownBlock] at hk
    omega
  have hB1 := hB.kp k1 (fun e => e)
  (repeat (first | with_reducible refine W.seq ?_ | with_reducible refine Ops.nil ?_ | with_reducible refine W.region ?_ | refine z_p (kk := ?_) | refine z_a (kk := ?_) | refine z_y (kk := ?_) | refine z_n (kk := ?_) | refine z_u (kk := ?_) | with_reducible refine W.skip ?_ | with_reducible refine W.endb ?_ | with_reducible refine W.block ?_ | refine W.exit rfl ?_ | refine z_l (kk := ?_) | refine z_f (kk := ?_) | refine z_M (kk := ?_) | refine z_m (kk := ?_) | refine z_e (kk := ?_) | refine z_E (kk := ?_) | refine z_d (kk := ?_)))
  refine W.loop (fun m ρ w2 => ∃ (os : List Int), m ≤ l.length ∧ ρ = [(0, .pointer (some ⟨g, 0, none⟩)), (1, .func (.func f) first.toArray cap.toArray), (5, .slice (some ⟨dr, 0, none⟩) l.length l.length), (6, .int .i64 ((m : Int) - 1))] ∧
      FInv w w2 (.slice (some ⟨dr, 0, none⟩) l.length l.length) os ∧ os.length = l.length ∧ ∀ j : Nat, m ≤ j → j < l.length → os.getD j 0 = NV l dep wf os j)
    ⟨l.length, _, ⟨_, Nat.le_refl _, rfl, hI0, by simp, fun j h1 h2 => by omega⟩, (by repeat (first | exact trivial | refine And.intro rfl ?_))⟩ ?_
  rintro m ρ w2 ⟨os, hm, rfl, hI, hol, hval⟩
  have hG2 := hG.below hI.bel
  obtain ⟨tv2, dv2, hB2, hTr2, hD2⟩ := hG2.out
  (repeat (first | with_reducible refine W.seq ?_ | with_reducible refine Ops.nil ?_ | with_reducible refine W.region ?_ | refine z_p (kk := ?_) | refine z_a (kk := ?_) | refine z_y (kk := ?_) | refine z_n (kk := ?_) | refine z_u (kk := ?_) | with_reducible refine W.skip ?_ | with_reducible refine W.endb ?_ | with_reducible refine W.block ?_ | refine W.exit rfl ?_ | refine z_l (kk := ?_) | refine z_f (kk := ?_) | refine z_M (kk := ?_) | refine z_m (kk := ?_) | refine z_e (kk := ?_) | refine z_E (kk := ?_) | refine z_d (kk := ?_)))
  refine W.cond rfl (fun hc => ?_) (fun hc => ?_)
  · obtain ⟨q, rfl⟩ : ∃ q, m = q + 1 := ⟨m - 1, by simp at hc; omega⟩
    have e1 : ((q + 1 : Nat) : Int) - 1 = q := by omega
    rw [e1]
    (repeat (first | with_reducible refine W.seq ?_ | with_reducible refine Ops.nil ?_ | with_reducible refine W.region ?_ | refine z_p (kk := ?_) | refine z_a (kk := ?_) | refine z_y (kk := ?_) | refine z_n (kk := ?_) | refine z_u (kk := ?_) | with_reducible refine W.skip ?_ | with_reducible refine W.endb ?_ | with_reducible refine W.block ?_ | refine W.exit rfl ?_ | refine z_l (kk := ?_) | refine z_f (kk := ?_) | refine z_M (kk := ?_) | refine z_m (kk := ?_) | refine z_e (kk := ?_) | refine z_E (kk := ?_) | refine z_d (kk := ?_)))
    refine Ops.callS rfl rfl rfl rfl rfl (isLeaf_c hG2 q (by omega) (by omega)) ?_
    (repeat (first | with_reducible refine W.seq ?_ | with_reducible refine Ops.nil ?_ | with_reducible refine W.region ?_ | refine z_p (kk := ?_) | refine z_a (kk := ?_) | refine z_y (kk := ?_) | refine z_n (kk := ?_) | refine z_u (kk := ?_) | with_reducible refine W.skip ?_ | with_reducible refine W.endb ?_ | with_reducible refine W.block ?_ | refine W.exit rfl ?_ | refine z_l (kk := ?_) | refine z_f (kk := ?_) | refine z_M (kk := ?_) | refine z_m (kk := ?_) | refine z_e (kk := ?_) | refine z_E (kk := ?_) | refine z_d (kk := ?_)))
    refine W.cond rfl (fun hlf => ?_) (fun hlf => ?_)
    · (repeat (first | with_reducible refine W.seq ?_ | with_reducible refine Ops.nil ?_ | with_reducible refine W.region ?_ | refine z_p (kk := ?_) | refine z_a (kk := ?_) | refine z_y (kk := ?_) | refine z_n (kk := ?_) | refine z_u (kk := ?_) | with_reducible refine W.skip ?_ | with_reducible refine W.endb ?_ | with_reducible refine W.block ?_ | refine W.exit rfl ?_ | refine z_l (kk := ?_) | refine z_f (kk := ?_) | refine z_M (kk := ?_) | refine z_m (kk := ?_) | refine z_e (kk := ?_) | refine z_E (kk := ?_) | refine z_d (kk := ?_)))
      refine Ops.call rfl rfl rfl rfl hfm (hfc q w2 hI.bel ⟨by omega, by omega, hlf⟩) (fun v w3 hR => ?_)
      obtain ⟨rfl, hb3⟩ := hR
      have hI3 := hI.new (Kp.of_below (S := fun _ => False) hb3) (fun _ e => e.elim)
      refine Ops.wrS rfl rfl rfl rfl rfl rfl rfl rfl rfl rfl rfl rfl (by simp) rfl hI3.own (by omega) (by omega) (fun w4 p hown4 k4 _ => ?_)
      have hI4 := hI3.wr (by omega) hown4 k4
      simp only [Int.toNat_natCast] at hI4
      (repeat (first | with_reducible refine W.seq ?_ | with_reducible refine Ops.nil ?_ | with_reducible refine W.region ?_ | refine z_p (kk := ?_) | refine z_a (kk := ?_) | refine z_y (kk := ?_) | refine z_n (kk := ?_) | refine z_u (kk := ?_) | with_reducible refine W.skip ?_ | with_reducible refine W.endb ?_ | with_reducible refine W.block ?_ | refine W.exit rfl ?_ | refine z_l (kk := ?_) | refine z_f (kk := ?_) | refine z_M (kk := ?_) | refine z_m (kk := ?_) | refine z_e (kk := ?_) | refine z_E (kk := ?_) | refine z_d (kk := ?_)))
      exact W.endl ⟨q, _, ⟨⟨_, by omega, rfl, hI4, by simpa using hol, Go.Proofs.Ytdiljpnfochndaa.HP.val_set hT (by omega) hol (by simp [NV, hlf]) hval⟩, by omega⟩, (by repeat (first | exact trivial | refine And.intro rfl ?_))⟩
    · have hkl := hT.klen q (by omega)
      (repeat (first | with_reducible refine W.seq ?_ | with_reducible refine Ops.nil ?_ | with_reducible refine W.region ?_ | refine z_p (kk := ?_) | refine z_a (kk := ?_) | refine z_y (kk := ?_) | refine z_n (kk := ?_) | refine z_u (kk := ?_) | with_reducible refine W.skip ?_ | with_reducible refine W.endb ?_ | with_reducible refine W.block ?_ | refine W.exit rfl ?_ | refine z_l (kk := ?_) | refine z_f (kk := ?_) | refine z_M (kk := ?_) | refine z_m (kk := ?_) | refine z_e (kk := ?_) | refine z_E (kk := ?_) | refine z_d (kk := ?_)))
      refine Ops.rdK rfl rfl rfl rfl rfl rfl rfl rfl rfl rfl rfl rfl rfl rfl rfl hTr2 (Below.refl _ _) (by omega) (by omega) (fun cv p q' hcv => ?_)
      obtain ⟨Ac, cc, rfl⟩ := Sl.sl hcv
      have hbase := hI.bel
      (repeat (first | with_reducible refine W.seq ?_ | with_reducible refine Ops.nil ?_ | with_reducible refine W.region ?_ | refine z_p (kk := ?_) | refine z_a (kk := ?_) | refine z_y (kk := ?_) | refine z_n (kk := ?_) | refine z_u (kk := ?_) | with_reducible refine W.skip ?_ | with_reducible refine W.endb ?_ | with_reducible refine W.block ?_ | refine W.exit rfl ?_ | refine z_l (kk := ?_) | refine z_f (kk := ?_) | refine z_M (kk := ?_) | refine z_m (kk := ?_) | refine z_e (kk := ?_) | refine z_E (kk := ?_) | refine z_d (kk := ?_)))
      refine W.loop (fun m ρ w3 => ∃ (j : Nat) (lv : Value), m = (kid l q).length - j ∧ j ≤ (kid l q).length ∧ ρ = [(0, .pointer (some ⟨g, 0, none⟩)), (1, .func (.func f) first.toArray cap.toArray), (5, .slice (some ⟨dr, 0, none⟩) l.length l.length), (6, .int .i64 q), (7, lv), (42, .slice Ac (kid l q).length cc), (43, .int .i64 (kid l q).length), (44, .int .i64 j)] ∧
          FInv w w3 (.slice (some ⟨dr, 0, none⟩) l.length l.length) os ∧ Below w2.heap.size w2 w3 ∧ FInv w2 w3 lv (((kid l q).take j).map (rd os)))
        ⟨_, _, ⟨0, _, rfl, Nat.zero_le _, rfl, hI, Below.refl _ _, FInv.nil (Below.refl _ _)⟩, (by repeat (first | exact trivial | refine And.intro rfl ?_))⟩ ?_
      rintro m ρ w3 ⟨j, lv, rfl, hj, rfl, hI3, hb3, hL3⟩
      have hdr2 : dr < w2.heap.size := (hI.own.lt dr rfl).2
      (repeat (first | with_reducible refine W.seq ?_ | with_reducible refine Ops.nil ?_ | with_reducible refine W.region ?_ | refine z_p (kk := ?_) | refine z_a (kk := ?_) | refine z_y (kk := ?_) | refine z_n (kk := ?_) | refine z_u (kk := ?_) | with_reducible refine W.skip ?_ | with_reducible refine W.endb ?_ | with_reducible refine W.block ?_ | refine W.exit rfl ?_ | refine z_l (kk := ?_) | refine z_f (kk := ?_) | refine z_M (kk := ?_) | refine z_m (kk := ?_) | refine z_e (kk := ?_) | refine z_E (kk := ?_) | refine z_d (kk := ?_)))
      refine W.cond rfl (fun hc => ?_) (fun hc => ?_)
      · have hlt : j < (kid l q).length := by simp at hc; omega
        have hkin := hT.kin q j (by omega) hlt
        simp only [Go.Proofs.Ytdiljpnfochndaa.HP.k_] at hkin
        have htk := Go.Proofs.Ytdiljpnfochndaa.HP.take_snoc (kid l q) j hlt
        (repeat (first | with_reducible refine W.seq ?_ | with_reducible refine Ops.nil ?_ | with_reducible refine W.region ?_ | refine z_p (kk := ?_) | refine z_a (kk := ?_) | refine z_y (kk := ?_) | refine z_n (kk := ?_) | refine z_u (kk := ?_) | with_reducible refine W.skip ?_ | with_reducible refine W.endb ?_ | with_reducible refine W.block ?_ | refine W.exit rfl ?_ | refine z_l (kk := ?_) | refine z_f (kk := ?_) | refine z_M (kk := ?_) | refine z_m (kk := ?_) | refine z_e (kk := ?_) | refine z_E (kk := ?_) | refine z_d (kk := ?_)))
        refine Ops.rdS (enc := Value.int .i64) (z := (0 : Int)) rfl rfl rfl rfl rfl rfl rfl rfl rfl rfl rfl (Sl.below hcv hb3) (by omega) (by omega) (fun p => ?_)
        simp only [Int.toNat_natCast]
        generalize (kid l q).getD j 0 = cj at *
        (repeat (first | with_reducible refine W.seq ?_ | with_reducible refine Ops.nil ?_ | with_reducible refine W.region ?_ | refine z_p (kk := ?_) | refine z_a (kk := ?_) | refine z_y (kk := ?_) | refine z_n (kk := ?_) | refine z_u (kk := ?_) | with_reducible refine W.skip ?_ | with_reducible refine W.endb ?_ | with_reducible refine W.block ?_ | refine W.exit rfl ?_ | refine z_l (kk := ?_) | refine z_f (kk := ?_) | refine z_M (kk := ?_) | refine z_m (kk := ?_) | refine z_e (kk := ?_) | refine z_E (kk := ?_) | refine z_d (kk := ?_)))
        refine Ops.rdS (enc := Value.int .i64) (z := (0 : Int)) rfl rfl rfl rfl rfl rfl rfl rfl rfl rfl rfl hI3.sl (by omega) (by omega) (fun p => ?_)
        refine Ops.push rfl rfl rfl rfl rfl rfl rfl rfl rfl rfl rfl rfl (fun _ => rfl) rfl hL3.own (by simp; omega) (fun lv' p w4 hown4 k4 hn4 => ?_)
        have hL4 := hL3.push hown4 k4 hn4
        have hI4 : FInv w w4 (.slice (some ⟨dr, 0, none⟩) l.length l.length) os := hI3.kp k4 (fun i hi => by
          have := hL3.ge i hi
          have := hbase.size
          refine ⟨by omega, fun e => ?_⟩
          simp [Value.ownBlock] at e
          omega)
        have hb4 : Below w2.heap.size w2 w4 := Below.at_ hb3 k4 (fun i hi => hL3.ge i hi)
        (repeat (first | with_reducible refine W.seq ?_ | with_reducible refine Ops.nil ?_ | with_reducible refine W.region ?_ | refine z_p (kk := ?_) | refine z_a (kk := ?_) | refine z_y (kk := ?_) | refine z_n (kk := ?_) | refine z_u (kk := ?_) | with_reducible refine W.skip ?_ | with_reducible refine W.endb ?_ | with_reducible refine W.block ?_ | refine W.exit rfl ?_ | refine z_l (kk := ?_) | refine z_f (kk := ?_) | refine z_M (kk := ?_) | refine z_m (kk := ?_) | refine z_e (kk := ?_) | refine z_E (kk := ?_) | refine z_d (kk := ?_)))
        refine W.endl ⟨_, _, ⟨⟨j + 1, lv', rfl, by omega, rfl, hI4, hb4, ?_⟩, by omega⟩, (by repeat (first | exact trivial | refine And.intro rfl ?_))⟩
        rw [htk, List.map_append]
        exact hL4
      · have hlt : j = (kid l q).length := by simp at hc; omega
        subst hlt
        rw [List.take_length] at hL3
        have hG3 := hG2.below hb3
        have hpos : 0 < ((kid l q).map (rd os)).length := by rw [List.length_map]; exact Go.Proofs.Ytdiljpnfochndaa.HP.kid_ne hlf
        (repeat (first | with_reducible refine W.seq ?_ | with_reducible refine Ops.nil ?_ | with_reducible refine W.region ?_ | refine z_p (kk := ?_) | refine z_a (kk := ?_) | refine z_y (kk := ?_) | refine z_n (kk := ?_) | refine z_u (kk := ?_) | with_reducible refine W.skip ?_ | with_reducible refine W.endb ?_ | with_reducible refine W.block ?_ | refine W.exit rfl ?_ | refine z_l (kk := ?_) | refine z_f (kk := ?_) | refine z_M (kk := ?_) | refine z_m (kk := ?_) | refine z_e (kk := ?_) | refine z_E (kk := ?_) | refine z_d (kk := ?_)))
        refine Ops.callS rfl rfl rfl rfl rfl (atMax_c hG3 q (by omega) (by have := hT.len; omega)) ?_
        (repeat (first | with_reducible refine W.seq ?_ | with_reducible refine Ops.nil ?_ | with_reducible refine W.region ?_ | refine z_p (kk := ?_) | refine z_a (kk := ?_) | refine z_y (kk := ?_) | refine z_n (kk := ?_) | refine z_u (kk := ?_) | with_reducible refine W.skip ?_ | with_reducible refine W.endb ?_ | with_reducible refine W.block ?_ | refine W.exit rfl ?_ | refine z_l (kk := ?_) | refine z_f (kk := ?_) | refine z_M (kk := ?_) | refine z_m (kk := ?_) | refine z_e (kk := ?_) | refine z_E (kk := ?_) | refine z_d (kk := ?_)))
        refine W.cond rfl (fun hev => ?_) (fun hev => ?_)
        · (repeat (first | with_reducible refine W.seq ?_ | with_reducible refine Ops.nil ?_ | with_reducible refine W.region ?_ | refine z_p (kk := ?_) | refine z_a (kk := ?_) | refine z_y (kk := ?_) | refine z_n (kk := ?_) | refine z_u (kk := ?_) | with_reducible refine W.skip ?_ | with_reducible refine W.endb ?_ | with_reducible refine W.block ?_ | refine W.exit rfl ?_ | refine z_l (kk := ?_) | refine z_f (kk := ?_) | refine z_M (kk := ?_) | refine z_m (kk := ?_) | refine z_e (kk := ?_) | refine z_E (kk := ?_) | refine z_d (kk := ?_)))
          refine Ops.callS rfl rfl rfl rfl rfl (max_c hL3.sl hpos) ?_
          refine Ops.wrS rfl rfl rfl rfl rfl rfl rfl rfl rfl rfl rfl rfl (by simp) rfl hI3.own (by omega) (by omega) (fun w4 p hown4 k4 _ => ?_)
          have hI4 := hI3.wr (by omega) hown4 k4
          simp only [Int.toNat_natCast] at hI4
          (repeat (first | with_reducible refine W.seq ?_ | with_reducible refine Ops.nil ?_ | with_reducible refine W.region ?_ | refine z_p (kk := ?_) | refine z_a (kk := ?_) | refine z_y (kk := ?_) | refine z_n (kk := ?_) | refine z_u (kk := ?_) | with_reducible refine W.skip ?_ | with_reducible refine W.endb ?_ | with_reducible refine W.block ?_ | refine W.exit rfl ?_ | refine z_l (kk := ?_) | refine z_f (kk := ?_) | refine z_M (kk := ?_) | refine z_m (kk := ?_) | refine z_e (kk := ?_) | refine z_E (kk := ?_) | refine z_d (kk := ?_)))
          exact W.endl ⟨q, _, ⟨⟨_, by omega, rfl, hI4, by simpa using hol, Go.Proofs.Ytdiljpnfochndaa.HP.val_set hT (by omega) hol (by simp [NV, hlf, hev]) hval⟩, by omega⟩, (by repeat (first | exact trivial | refine And.intro rfl ?_))⟩
        · (repeat (first | with_reducible refine W.seq ?_ | with_reducible refine Ops.nil ?_ | with_reducible refine W.region ?_ | refine z_p (kk := ?_) | refine z_a (kk := ?_) | refine z_y (kk := ?_) | refine z_n (kk := ?_) | refine z_u (kk := ?_) | with_reducible refine W.skip ?_ | with_reducible refine W.endb ?_ | with_reducible refine W.block ?_ | refine W.exit rfl ?_ | refine z_l (kk := ?_) | refine z_f (kk := ?_) | refine z_M (kk := ?_) | refine z_m (kk := ?_) | refine z_e (kk := ?_) | refine z_E (kk := ?_) | refine z_d (kk := ?_)))
          refine Ops.callS rfl rfl rfl rfl rfl (min_c hL3.sl hpos) ?_
          refine Ops.wrS rfl rfl rfl rfl rfl rfl rfl rfl rfl rfl rfl rfl (by simp) rfl hI3.own (by omega) (by omega) (fun w4 p hown4 k4 _ => ?_)
          have hI4 := hI3.wr (by omega) hown4 k4
          simp only [Int.toNat_natCast] at hI4
          (repeat (first | with_reducible refine W.seq ?_ | with_reducible refine Ops.nil ?_ | with_reducible refine W.region ?_ | refine z_p (kk := ?_) | refine z_a (kk := ?_) | refine z_y (kk := ?_) | refine z_n (kk := ?_) | refine z_u (kk := ?_) | with_reducible refine W.skip ?_ | with_reducible refine W.endb ?_ | with_reducible refine W.block ?_ | refine W.exit rfl ?_ | refine z_l (kk := ?_) | refine z_f (kk := ?_) | refine z_M (kk := ?_) | refine z_m (kk := ?_) | refine z_e (kk := ?_) | refine z_E (kk := ?_) | refine z_d (kk := ?_)))
          exact W.endl ⟨q, _, ⟨⟨_, by omega, rfl, hI4, by simpa using hol, Go.Proofs.Ytdiljpnfochndaa.HP.val_set hT (by omega) hol (by simp [NV, hlf, hev]) hval⟩, by omega⟩, (by repeat (first | exact trivial | refine And.intro rfl ?_))⟩
  · obtain rfl : m = 0 := by simp at hc; omega
    (repeat (first | with_reducible refine W.seq ?_ | with_reducible refine Ops.nil ?_ | with_reducible refine W.region ?_ | refine z_p (kk := ?_) | refine z_a (kk := ?_) | refine z_y (kk := ?_) | refine z_n (kk := ?_) | refine z_u (kk := ?_) | with_reducible refine W.skip ?_ | with_reducible refine W.endb ?_ | with_reducible refine W.block ?_ | refine W.exit rfl ?_ | refine z_l (kk := ?_) | refine z_f (kk := ?_) | refine z_M (kk := ?_) | refine z_m (kk := ?_) | refine z_e (kk := ?_) | refine z_E (kk := ?_) | refine z_d (kk := ?_)))
    exact W.fret rfl ⟨os, ⟨hol, fun j hj => hval j (Nat.zero_le _) hj⟩, hI⟩
end Go.Proofs.Ytdiljpnfochndaa
namespace Go.Proofs.Ytdiljpnfochndaa
open Go Go.RowKit Go.Proofs.Ytdiljpnfochndaa.VW
open Go.Proofs.Ytdiljpnfochndaa.HP (Nd kid wor leafB rd evB TF maxL minL NV ValP gameOf gameOf_TF)
attribute [local irreducible] W Ops
theorem Clo.worth {w : World} {g : Nat} {l : List Nd} {dep : List Int} (hG : Game w g l dep) : Clo w (.func (.func 60) #[.pointer (some ⟨g, 0, none⟩)] #[]) (wor l) (fun i => 0 ≤ i ∧ i < l.length ∧ leafB l i = true) :=
  ⟨60, [.pointer (some ⟨g, 0, none⟩)], [], rfl, rfl, fun i w' hb hi => (worth_c (hG.below hb) i hi.1 hi.2.1).mono fun e w'' ⟨v, he, h1, h2⟩ => ⟨v, he, h1, by rw [h2]; exact Below.refl _ _⟩⟩
theorem value_c {w : World} {v : Value} {l : List Nd} (hT : TreeM w v l) (hl : l.length ≤ 9223372036854775807) :
    Calls Try.prog 35 #[v] w (Ret fun r w' => Below w.heap.size w w' ∧ match gameOf l with
      | none => r = .tuple #[.int .i64 0, .int .i64 2]
      | some dep => ∃ vs, ValP l dep (wor l) vs ∧ r = .tuple #[.int .i64 (vs.getD 0 0), .int .i64 0]) := by
  refine calls_W (vs := [_]) Try.func35 rfl (by kernel_rfl) rfl ?_
  (repeat (first | with_reducible refine W.seq ?_ | with_reducible refine Ops.nil ?_ | with_reducible refine W.region ?_ | refine z_p (kk := ?_) | refine z_a (kk := ?_) | refine z_y (kk := ?_) | refine z_n (kk := ?_) | refine z_u (kk := ?_) | with_reducible refine W.skip ?_ | with_reducible refine W.endb ?_ | with_reducible refine W.block ?_ | refine W.exit rfl ?_ | refine z_l (kk := ?_) | refine z_f (kk := ?_) | refine z_M (kk := ?_) | refine z_m (kk := ?_) | refine z_e (kk := ?_) | refine z_E (kk := ?_) | refine z_d (kk := ?_)))
  refine Ops.call rfl rfl rfl rfl rfl (newGame_c hT hl) (fun r w1 hR => ?_)
  obtain ⟨hb1, hR⟩ := hR
  cases hg : gameOf l with
  | none =>
    rw [hg] at hR
    obtain ⟨p, hp1, rfl⟩ := hR
    (repeat (first | with_reducible refine W.seq ?_ | with_reducible refine Ops.nil ?_ | with_reducible refine W.region ?_ | refine z_p (kk := ?_) | refine z_a (kk := ?_) | refine z_y (kk := ?_) | refine z_n (kk := ?_) | refine z_u (kk := ?_) | with_reducible refine W.skip ?_ | with_reducible refine W.endb ?_ | with_reducible refine W.block ?_ | refine W.exit rfl ?_ | refine z_l (kk := ?_) | refine z_f (kk := ?_) | refine z_M (kk := ?_) | refine z_m (kk := ?_) | refine z_e (kk := ?_) | refine z_E (kk := ?_) | refine z_d (kk := ?_)))
    refine W.cond rfl (fun hc => ?_) (fun hc => ?_)
    · (repeat (first | with_reducible refine W.seq ?_ | with_reducible refine Ops.nil ?_ | with_reducible refine W.region ?_ | refine z_p (kk := ?_) | refine z_a (kk := ?_) | refine z_y (kk := ?_) | refine z_n (kk := ?_) | refine z_u (kk := ?_) | with_reducible refine W.skip ?_ | with_reducible refine W.endb ?_ | with_reducible refine W.block ?_ | refine W.exit rfl ?_ | refine z_l (kk := ?_) | refine z_f (kk := ?_) | refine z_M (kk := ?_) | refine z_m (kk := ?_) | refine z_e (kk := ?_) | refine z_E (kk := ?_) | refine z_d (kk := ?_)))
      exact W.fret rfl ⟨hb1, rfl⟩
    · simp at hc
  | some dep =>
    rw [hg] at hR
    obtain ⟨g, rfl, hgs, hG⟩ := hR
    (repeat (first | with_reducible refine W.seq ?_ | with_reducible refine Ops.nil ?_ | with_reducible refine W.region ?_ | refine z_p (kk := ?_) | refine z_a (kk := ?_) | refine z_y (kk := ?_) | refine z_n (kk := ?_) | refine z_u (kk := ?_) | with_reducible refine W.skip ?_ | with_reducible refine W.endb ?_ | with_reducible refine W.block ?_ | refine W.exit rfl ?_ | refine z_l (kk := ?_) | refine z_f (kk := ?_) | refine z_M (kk := ?_) | refine z_m (kk := ?_) | refine z_e (kk := ?_) | refine z_E (kk := ?_) | refine z_d (kk := ?_)))
    refine W.cond rfl (fun hc => ?_) (fun hc => ?_)
    · simp at hc
    · (repeat (first | with_reducible refine W.seq ?_ | with_reducible refine Ops.nil ?_ | with_reducible refine W.region ?_ | refine z_p (kk := ?_) | refine z_a (kk := ?_) | refine z_y (kk := ?_) | refine z_n (kk := ?_) | refine z_u (kk := ?_) | with_reducible refine W.skip ?_ | with_reducible refine W.endb ?_ | with_reducible refine W.block ?_ | refine W.exit rfl ?_ | refine z_l (kk := ?_) | refine z_f (kk := ?_) | refine z_M (kk := ?_) | refine z_m (kk := ?_) | refine z_e (kk := ?_) | refine z_E (kk := ?_) | refine z_d (kk := ?_)))
      refine Ops.call rfl rfl rfl rfl rfl (values_c hG (gameOf_TF hg) (Clo.worth hG)) (fun r w2 hR => ?_)
      obtain ⟨vs, hvs, hI⟩ := hR
      have hn := (gameOf_TF hg).n1
      have hvl := hvs.len
      refine Ops.rdS (enc := Value.int .i64) (z := (0 : Int)) rfl rfl rfl rfl rfl rfl rfl rfl rfl rfl rfl hI.sl (by omega) (by omega) (fun p => ?_)
      (repeat (first | with_reducible refine W.seq ?_ | with_reducible refine Ops.nil ?_ | with_reducible refine W.region ?_ | refine z_p (kk := ?_) | refine z_a (kk := ?_) | refine z_y (kk := ?_) | refine z_n (kk := ?_) | refine z_u (kk := ?_) | with_reducible refine W.skip ?_ | with_reducible refine W.endb ?_ | with_reducible refine W.block ?_ | refine W.exit rfl ?_ | refine z_l (kk := ?_) | refine z_f (kk := ?_) | refine z_M (kk := ?_) | refine z_m (kk := ?_) | refine z_e (kk := ?_) | refine z_E (kk := ?_) | refine z_d (kk := ?_)))
      have hb2 : Below w.heap.size w w2 := hb1.trans (hI.bel.mono hb1.size)
      exact W.fret rfl ⟨hb2, vs, hvs, rfl⟩
theorem valuesF_c {w : World} {v : Value} {l : List Nd} (hT : TreeM w v l) (hl : l.length ≤ 9223372036854775807) :
    Calls Try.prog 39 #[v] w (Ret fun r w' => Below w.heap.size w w' ∧ match gameOf l with
      | none => r = .tuple #[.slice none 0 0, .int .i64 2]
      | some dep => ∃ vs u, ValP l dep (wor l) vs ∧ r = .tuple #[u, .int .i64 0] ∧ FInv w w' u vs) := by
  refine calls_W (vs := [_]) Try.func39 rfl (by kernel_rfl) rfl ?_
  (repeat (first | with_reducible refine W.seq ?_ | with_reducible refine Ops.nil ?_ | with_reducible refine W.region ?_ | refine z_p (kk := ?_) | refine z_a (kk := ?_) | refine z_y (kk := ?_) | refine z_n (kk := ?_) | refine z_u (kk := ?_) | with_reducible refine W.skip ?_ | with_reducible refine W.endb ?_ | with_reducible refine W.block ?_ | refine W.exit rfl ?_ | refine z_l (kk := ?_) | refine z_f (kk := ?_) | refine z_M (kk := ?_) | refine z_m (kk := ?_) | refine z_e (kk := ?_) | refine z_E (kk := ?_) | refine z_d (kk := ?_)))
  refine Ops.call rfl rfl rfl rfl rfl (newGame_c hT hl) (fun r w1 hR => ?_)
  obtain ⟨hb1, hR⟩ := hR
  cases hg : gameOf l with
  | none =>
    rw [hg] at hR
    obtain ⟨p, hp1, rfl⟩ := hR
    (repeat (first | with_reducible refine W.seq ?_ | with_reducible refine Ops.nil ?_ | with_reducible refine W.region ?_ | refine z_p (kk := ?_) | refine z_a (kk := ?_) | refine z_y (kk := ?_) | refine z_n (kk := ?_) | refine z_u (kk := ?_) | with_reducible refine W.skip ?_ | with_reducible refine W.endb ?_ | with_reducible refine W.block ?_ | refine W.exit rfl ?_ | refine z_l (kk := ?_) | refine z_f (kk := ?_) | refine z_M (kk := ?_) | refine z_m (kk := ?_) | refine z_e (kk := ?_) | refine z_E (kk := ?_) | refine z_d (kk := ?_)))
    refine W.cond rfl (fun hc => ?_) (fun hc => ?_)
    · (repeat (first | with_reducible refine W.seq ?_ | with_reducible refine Ops.nil ?_ | with_reducible refine W.region ?_ | refine z_p (kk := ?_) | refine z_a (kk := ?_) | refine z_y (kk := ?_) | refine z_n (kk := ?_) | refine z_u (kk := ?_) | with_reducible refine W.skip ?_ | with_reducible refine W.endb ?_ | with_reducible refine W.block ?_ | refine W.exit rfl ?_ | refine z_l (kk := ?_) | refine z_f (kk := ?_) | refine z_M (kk := ?_) | refine z_m (kk := ?_) | refine z_e (kk := ?_) | refine z_E (kk := ?_) | refine z_d (kk := ?_)))
      exact W.fret rfl ⟨hb1, rfl⟩
    · simp at hc
  | some dep =>
    rw [hg] at hR
    obtain ⟨g, rfl, hgs, hG⟩ := hR
    (repeat (first | with_reducible refine W.seq ?_ | with_reducible refine Ops.nil ?_ | with_reducible refine W.region ?_ | refine z_p (kk := ?_) | refine z_a (kk := ?_) | refine z_y (kk := ?_) | refine z_n (kk := ?_) | refine z_u (kk := ?_) | with_reducible refine W.skip ?_ | with_reducible refine W.endb ?_ | with_reducible refine W.block ?_ | refine W.exit rfl ?_ | refine z_l (kk := ?_) | refine z_f (kk := ?_) | refine z_M (kk := ?_) | refine z_m (kk := ?_) | refine z_e (kk := ?_) | refine z_E (kk := ?_) | refine z_d (kk := ?_)))
    refine W.cond rfl (fun hc => ?_) (fun hc => ?_)
    · simp at hc
    · (repeat (first | with_reducible refine W.seq ?_ | with_reducible refine Ops.nil ?_ | with_reducible refine W.region ?_ | refine z_p (kk := ?_) | refine z_a (kk := ?_) | refine z_y (kk := ?_) | refine z_n (kk := ?_) | refine z_u (kk := ?_) | with_reducible refine W.skip ?_ | with_reducible refine W.endb ?_ | with_reducible refine W.block ?_ | refine W.exit rfl ?_ | refine z_l (kk := ?_) | refine z_f (kk := ?_) | refine z_M (kk := ?_) | refine z_m (kk := ?_) | refine z_e (kk := ?_) | refine z_E (kk := ?_) | refine z_d (kk := ?_)))
      refine Ops.call rfl rfl rfl rfl rfl (values_c hG (gameOf_TF hg) (Clo.worth hG)) (fun r w2 hR => ?_)
      obtain ⟨vs, hvs, hI⟩ := hR
      (repeat (first | with_reducible refine W.seq ?_ | with_reducible refine Ops.nil ?_ | with_reducible refine W.region ?_ | refine z_p (kk := ?_) | refine z_a (kk := ?_) | refine z_y (kk := ?_) | refine z_n (kk := ?_) | refine z_u (kk := ?_) | with_reducible refine W.skip ?_ | with_reducible refine W.endb ?_ | with_reducible refine W.block ?_ | refine W.exit rfl ?_ | refine z_l (kk := ?_) | refine z_f (kk := ?_) | refine z_M (kk := ?_) | refine z_m (kk := ?_) | refine z_e (kk := ?_) | refine z_E (kk := ?_) | refine z_d (kk := ?_)))
      have hb2 : Below w.heap.size w w2 := hb1.trans (hI.bel.mono hb1.size)
      exact W.fret rfl ⟨hb2, vs, _, hvs, rfl, ⟨hb2, hI.own, fun k hk => Nat.le_trans hb1.size (hI.ge k hk)⟩⟩
end Go.Proofs.Ytdiljpnfochndaa
/- slices.Sort at a slice of the call's own. (lays189: laid by the kit's shelf tool.) -/
namespace Go.Proofs
open Go.Shelf
def Try.lays189_ren : Go.Shelf.Ren := ⟨fun | 189 => 91 | 125 => 101 | 257 => 100 | 128 => 115 | 129 => 116 | 294 => 106 | 295 => 107 | 296 => 108 | 297 => 109 | 298 => 110 | 299 => 111 | 216 => 112 | 300 => 113 | 301 => 114 | 328 => 120 | 329 => 121 | 330 => 122 | 331 => 123 | 332 => 124 | 215 => 125 | 343 => 127 | n => n, fun | 28 => 24 | 3 => 3 | 46 => 87 | 0 => 0 | 51 => 122 | 53 => 124 | 4 => 4 | 183 => 115 | 182 => 114 | 131 => 63 | 5 => 5 | 9 => 9 | 218 => 129 | 222 => 133 | 228 => 135 | 229 => 41 | n => n, fun | n => n⟩
theorem Try.lays189 : Go.Proofs.Lays.n189 Try.prog Try.lays189_ren := {
  mixed := by kernel_rfl
  f125 := Try.func101.trans (congrArg some (by kernel_rfl))
  f128 := Try.func115.trans (congrArg some (by kernel_rfl))
  f129 := Try.func116.trans (congrArg some (by kernel_rfl))
  f189 := Try.func91.trans (congrArg some (by kernel_rfl))
  f215 := Try.func125.trans (congrArg some (by kernel_rfl))
  f216 := Try.func112.trans (congrArg some (by kernel_rfl))
  f257 := Try.func100.trans (congrArg some (by kernel_rfl))
  f294 := Try.func106.trans (congrArg some (by kernel_rfl))
  f295 := Try.func107.trans (congrArg some (by kernel_rfl))
  f296 := Try.func108.trans (congrArg some (by kernel_rfl))
  f297 := Try.func109.trans (congrArg some (by kernel_rfl))
  f298 := Try.func110.trans (congrArg some (by kernel_rfl))
  f299 := Try.func111.trans (congrArg some (by kernel_rfl))
  f300 := Try.func113.trans (congrArg some (by kernel_rfl))
  f301 := Try.func114.trans (congrArg some (by kernel_rfl))
  f328 := Try.func120.trans (congrArg some (by kernel_rfl))
  f329 := Try.func121.trans (congrArg some (by kernel_rfl))
  f330 := Try.func122.trans (congrArg some (by kernel_rfl))
  f331 := Try.func123.trans (congrArg some (by kernel_rfl))
  f332 := Try.func124.trans (congrArg some (by kernel_rfl))
  f343 := Try.func127.trans (congrArg some (by kernel_rfl))
  t0 := Try.underlying0
  a0 := Try.isAgg0
  z0 := Try.sizeOf0
  v0 := Try.zeroValue0
  t3 := Try.underlying3
  a3 := Try.isAgg3
  z3 := Try.sizeOf3
  v3 := Try.zeroValue3
  t4 := Try.underlying4
  a4 := Try.isAgg4
  z4 := Try.sizeOf4
  v4 := Try.zeroValue4
  t5 := Try.underlying5
  a5 := Try.isAgg5
  z5 := Try.sizeOf5
  v5 := Try.zeroValue5
  t9 := Try.underlying9
  a9 := Try.isAgg9
  z9 := Try.sizeOf9
  v9 := Try.zeroValue9
  t28 := Try.underlying24
  a28 := Try.isAgg24
  z28 := Try.sizeOf24
  v28 := Try.zeroValue24
  t46 := Try.underlying87
  a46 := Try.isAgg87
  z46 := Try.sizeOf87
  v46 := Try.zeroValue87
  t51 := Try.underlying122
  a51 := Try.isAgg122
  z51 := Try.sizeOf122
  v51 := Try.zeroValue122
  t53 := Try.underlying124
  a53 := Try.isAgg124
  z53 := Try.sizeOf124
  v53 := Try.zeroValue124
  t131 := Try.underlying63
  a131 := Try.isAgg63
  z131 := Try.sizeOf63
  v131 := Try.zeroValue63
  t182 := Try.underlying114
  a182 := Try.isAgg114
  z182 := Try.sizeOf114
  v182 := Try.zeroValue114
  t183 := Try.underlying115
  a183 := Try.isAgg115
  z183 := Try.sizeOf115
  v183 := Try.zeroValue115
  t218 := Try.underlying129
  a218 := Try.isAgg129
  z218 := Try.sizeOf129
  v218 := Try.zeroValue129
  t222 := Try.underlying133
  a222 := Try.isAgg133
  z222 := Try.sizeOf133
  v222 := Try.zeroValue133
  t228 := Try.underlying135
  a228 := Try.isAgg135
  z228 := Try.sizeOf135
  v228 := Try.zeroValue135
  t229 := Try.underlying41
  a229 := Try.isAgg41
  z229 := Try.sizeOf41
  v229 := Try.zeroValue41 }
open Go.Sort Go.RowKit in
theorem Try.slices_Sort_int (blk off cap : Nat) (zs : List Int) (w : World) (hH : Holds (Value.int .i64) w blk off zs.toArray) (hblk : blk < w.heap.size) (hsz : zs.length < 4611686018427387904) :
    Calls Try.prog 91 #[.slice (some ⟨blk, off, none⟩) zs.length cap] w fun e w' =>
      e = .returned (.tuple #[]) ∧ ∃ n os, w' = grow (putRow (Value.int .i64) (Sort.ahead w n) blk off (zs.mergeSort fun x y => decide (x ≤ y)).toArray) os := Any.slices_Sort_int Try.lays189 blk off cap zs w hH hblk hsz
end Go.Proofs
namespace Go.Proofs.Ytdiljpnfochndaa
open Go Go.RowKit Go.Proofs.Ytdiljpnfochndaa.VW
theorem sort_c {w : World} {v : Value} {xs : List Int} (hown : w.ownsRow 0 3 1 v xs.length (xs.map (Value.int .i64))) (hp : 0 < xs.length) (hl : xs.length < 4611686018427387904) :
    Calls Try.prog 91 #[v] w (Ret fun r w' => r = .tuple #[] ∧ w'.ownsRow 0 3 1 v xs.length ((xs.mergeSort fun x y => decide (x ≤ y)).map (Value.int .i64)) ∧ Kp (fun i => v.ownBlock = some i) w w') := by
  have ho := hown
  rcases hown.2 with ⟨rfl, h0⟩ | ⟨g, cap, cur, rfl, _, hg, hnc, hcm, hcs, ht⟩
  · omega
  · have hlt : g < w.heap.size := (Array.getElem?_eq_some_iff.1 hg).1
    refine (Try.slices_Sort_int g 0 cap xs w ?_ hlt hl).mono ?_
    · intro j hj
      have hj' : j < xs.length := by simpa using hj
      refine ⟨?_, ?_⟩
      · have := ho.cells (g := g) rfl j (.int .i64 xs[j]) (by simp [hj'])
        rw [add_lit] at this
        rw [this]
        simp [hj']
      · simp [World.frozen?, hg]
    · rintro e w' ⟨rfl, n, os, rfl⟩
      have hlen : (xs.mergeSort fun x y => decide (x ≤ y)).length = xs.length := List.length_mergeSort _
      have hsz : (Go.Sort.putRow (Value.int .i64) (Go.Sort.ahead w n) g 0 (xs.mergeSort fun x y => decide (x ≤ y)).toArray).heap.size = w.heap.size := by
        simp [Go.Sort.putRow, Go.Sort.mapBlock, Go.Sort.ahead]
      have hat : ∀ i, i < w.heap.size → (Go.Sort.grow (Go.Sort.putRow (Value.int .i64) (Go.Sort.ahead w n) g 0 (xs.mergeSort fun x y => decide (x ≤ y)).toArray) os).heap[i]? = (Go.Sort.putRow (Value.int .i64) (Go.Sort.ahead w n) g 0 (xs.mergeSort fun x y => decide (x ≤ y)).toArray).heap[i]? := by
        intro i hi
        simp only [Go.Sort.grow]
        rw [Array.getElem?_append_left (by rw [hsz]; exact hi)]
      refine ⟨_, rfl, rfl, ⟨by simp [hlen], .inr ⟨g, cap, Go.Sort.putCells (Value.int .i64) 0 (xs.mergeSort fun x y => decide (x ≤ y)).toArray cur, rfl, Nat.zero_le _, ?_, hnc, hcm, ?_, ?_⟩⟩, ⟨rfl, rfl, rfl, ?_, ?_⟩⟩
      · rw [hat g hlt]
        simp [Go.Sort.putRow, Go.Sort.mapBlock, Go.Sort.ahead, Array.getElem?_modify, hg, Go.Sort.onCells]
      · simp [Go.Sort.putCells, hcs]
      · apply List.ext_getElem
        · simp [Go.Sort.putCells, hcs, hlen]; omega
        · intro i h1 h2
          simp [hlen] at h2
          simp [Go.Sort.putCells, hlen, h2]
      · simp only [Go.Sort.grow, Array.size_append, hsz]; omega
      · intro i hi hn
        rw [hat i hi]
        simp only [Value.ownBlock, Option.some.injEq] at hn
        simp [Go.Sort.putRow, Go.Sort.mapBlock, Go.Sort.ahead, Array.getElem?_modify, hn]
end Go.Proofs.Ytdiljpnfochndaa
/- Efforts: how many leaves are needed, and which. -/
namespace Go.Proofs.Ytdiljpnfochndaa.HP
abbrev far : Int := 1099511627776
abbrev Ef := Int × List Int
abbrev ed (es : List Ef) (c : Int) : Ef := es.getD c.toNat (0, [])
def pickF (es : List Ef) (a : Ef) (c : Int) : Ef := if (ed es c).1 < a.1 then ed es c else a
def joinF (es : List Ef) (a : Ef) (c : Int) : Ef := (min far (a.1 + (ed es c).1), a.2 ++ (ed es c).2)
def NE (l : List Nd) (dep : List Int) (mx : Bool) (lf : Int → Int) (es : List Ef) (j : Int) : Ef :=
  if leafB l j then (lf j, [j]) else if evB dep j == mx then (kid l j).foldl (pickF es) (far, []) else (kid l j).foldl (joinF es) (0, [])
structure NeedP (l : List Nd) (dep : List Int) (mx : Bool) (lf : Int → Int) (es : List Ef) : Prop where
  len : es.length = l.length
  at_ : ∀ j : Nat, j < l.length → es.getD j (0, []) = NE l dep mx lf es j
def Anc (l : List Nd) : Nat → Int → Int → Prop
  | 0, c, x => c = x
  | k + 1, c, x => ∃ c' ∈ kid l c, Anc l k c' x
theorem kid_at {l : List Nd} {i c : Int} (h : c ∈ kid l i) : ∃ b : Nat, b < (kid l i).length ∧ (kid l i).getD b 0 = c := by
  obtain ⟨b, hb, rfl⟩ := List.mem_iff_getElem.1 h
  exact ⟨b, hb, by simp [List.getD_eq_getElem?_getD, hb]⟩
theorem kid_lt {l : List Nd} {i c : Int} (h0 : 0 ≤ i) (h : c ∈ kid l i) : i < l.length := by
  by_cases hl : i.toNat < l.length
  · omega
  · unfold kid at h
    rw [List.getD_eq_getElem?_getD, List.getElem?_eq_none (by omega)] at h
    simp at h
theorem Anc.dep {l : List Nd} {dep : List Int} (h : TF l dep) : ∀ {k : Nat} {c x : Int}, 0 ≤ c → Anc l k c x → rd dep x = rd dep c + k ∧ c ≤ x
  | 0, c, x, _, ha => by simp only [Anc] at ha; subst ha; simp
  | k + 1, c, x, hc, ha => by
    obtain ⟨c', hm, ha⟩ := ha
    have hlt := kid_lt hc hm
    obtain ⟨m, rfl⟩ := Int.eq_ofNat_of_zero_le hc
    obtain ⟨b, hb, hb2⟩ := kid_at hm
    have h1 := h.kin m b (by omega) hb
    have h2 := h.kdep m b (by omega) hb
    simp only [k_] at h1 h2
    rw [hb2] at h1 h2
    have h3 := Anc.dep h (k := k) (by omega) ha
    refine ⟨?_, by omega⟩
    rw [h3.1, h2]
    omega
theorem Anc.uniq {l : List Nd} {dep : List Int} (h : TF l dep) : ∀ {k : Nat} {c c' x : Int}, 0 ≤ c → 0 ≤ c' → Anc l k c x → Anc l k c' x → c = c'
  | 0, c, c', x, _, _, h1, h2 => by simp only [Anc] at h1 h2; omega
  | k + 1, c, c', x, hc, hc', ⟨d, hd, h1⟩, ⟨d', hd', h2⟩ => by
    have hl := kid_lt hc hd
    have hl' := kid_lt hc' hd'
    obtain ⟨m, rfl⟩ := Int.eq_ofNat_of_zero_le hc
    obtain ⟨m', rfl⟩ := Int.eq_ofNat_of_zero_le hc'
    obtain ⟨b, hb, e⟩ := kid_at hd
    obtain ⟨b', hb', e'⟩ := kid_at hd'
    have q1 := h.kin m b (by omega) hb
    have q2 := h.kin m' b' (by omega) hb'
    simp only [k_] at q1 q2
    rw [e] at q1
    rw [e'] at q2
    have := Anc.uniq h (k := k) (by omega) (by omega) h1 h2
    have := (h.inj m b m' b' (by omega) hb (by omega) hb' (by simp only [k_]; omega)).1
    omega
structure GoodE (l : List Nd) (j : Int) (xs : List Int) : Prop where
  mem : ∀ x ∈ xs, 0 ≤ x ∧ x < l.length ∧ leafB l x = true ∧ ∃ k, Anc l k j x
  nd : xs.Nodup
theorem nodup_len : ∀ (n : Nat) (xs : List Int), xs.Nodup → (∀ x ∈ xs, 0 ≤ x ∧ x < n) → xs.length ≤ n
  | 0, xs, _, h => by
    cases xs with
    | nil => simp
    | cons a r => have := h a (by simp); omega
  | n + 1, xs, hn, h => by
    have h1 := nodup_len n (xs.erase n) (hn.erase _) (fun x hx => by
      have hm := (hn.mem_erase_iff).1 hx
      have := h x hm.2
      have := hm.1
      omega)
    rw [List.length_erase] at h1
    split at h1 <;> omega
theorem GoodE.len {l : List Nd} {j : Int} {xs : List Int} (h : GoodE l j xs) : xs.length ≤ l.length := nodup_len _ _ h.nd fun x hx => ⟨(h.mem x hx).1, (h.mem x hx).2.1⟩
theorem GoodE.nil (l : List Nd) (j : Int) : GoodE l j [] := ⟨by simp, by simp⟩
theorem GoodE.up {l : List Nd} {j c : Int} {xs : List Int} (h : GoodE l c xs) (hc : c ∈ kid l j) : GoodE l j xs :=
  ⟨fun x hx => by obtain ⟨h1, h2, h4, k, h3⟩ := h.mem x hx; exact ⟨h1, h2, h4, k + 1, c, hc, h3⟩, h.nd⟩
/-- The list behind the first t children, for him who needs all of them. -/
theorem good_join {l : List Nd} {dep : List Int} (hT : TF l dep) {j : Nat} (hj : j < l.length) {es : List Ef} (hg : ∀ c ∈ kid l j, GoodE l c (ed es c).2) (t : Nat) (ht : t ≤ (kid l j).length) :
    GoodE l j (((kid l j).take t).foldl (joinF es) (0, [])).2 ∧ ∀ x ∈ (((kid l j).take t).foldl (joinF es) (0, [])).2, ∃ b k, b < t ∧ Anc l k ((kid l j).getD b 0) x := by
  induction t with
  | zero => exact ⟨GoodE.nil _ _, by simp⟩
  | succ t ih =>
    obtain ⟨h1, h2⟩ := ih (by omega)
    rw [take_snoc _ _ (by omega), List.foldl_append]
    simp only [List.foldl_cons, List.foldl_nil, joinF]
    have hmem : (kid l j).getD t 0 ∈ kid l j := by
      rw [List.getD_eq_getElem?_getD, List.getElem?_eq_getElem (by omega)]
      simp
    have hc := hg _ hmem
    refine ⟨⟨fun x hx => ?_, ?_⟩, fun x hx => ?_⟩
    · rcases List.mem_append.1 hx with hx | hx
      · exact h1.mem x hx
      · exact (hc.up hmem).mem x hx
    · rw [List.nodup_append]
      refine ⟨h1.nd, hc.nd, fun x hx y hy e => ?_⟩
      subst e
      obtain ⟨b, k, hb, ha⟩ := h2 x hx
      obtain ⟨_, _, _, k', ha'⟩ := hc.mem x hy
      have q1 := hT.kin j b hj (by omega)
      have q2 := hT.kin j t hj (by omega)
      have d1 := hT.kdep j b hj (by omega)
      have d2 := hT.kdep j t hj (by omega)
      simp only [k_] at q1 q2 d1 d2
      have e1 := ha.dep hT (by omega)
      have e2 := ha'.dep hT (by omega)
      have hk : k = k' := by omega
      subst hk
      have := Anc.uniq hT (by omega) (by omega) ha ha'
      have := (hT.inj j b j t hj (by omega) hj (by omega) this).2
      omega
    · rcases List.mem_append.1 hx with hx | hx
      · obtain ⟨b, k, hb, ha⟩ := h2 x hx
        exact ⟨b, k, by omega, ha⟩
      · obtain ⟨_, _, _, k, ha⟩ := hc.mem x hx
        exact ⟨t, k, by omega, ha⟩
theorem good_pick {l : List Nd} {j : Nat} {es : List Ef} (hg : ∀ c ∈ kid l j, GoodE l c (ed es c).2) : ∀ cs : List Int, (∀ c ∈ cs, c ∈ kid l j) → ∀ a, GoodE l j a.2 → GoodE l j (cs.foldl (pickF es) a).2
  | [], _, a, ha => ha
  | c :: r, hc, a, ha => by
    refine good_pick hg r (fun c h => hc c (by simp [h])) _ ?_
    unfold pickF
    split
    · exact (hg c (hc c (by simp))).up (hc c (by simp))
    · exact ha
theorem NE_congr {l : List Nd} {dep : List Int} (h : TF l dep) {i : Nat} (hi : i < l.length) {mx : Bool} {lf : Int → Int} {es us : List Ef} (he : ∀ j : Nat, i < j → j < l.length → es.getD j (0, []) = us.getD j (0, [])) : NE l dep mx lf es i = NE l dep mx lf us i := by
  have hk : ∀ c ∈ kid l i, ed es c = ed us c := fun c hc => by
    obtain ⟨h1, h2⟩ := mem_kid h hi hc
    exact he c.toNat (by omega) (by omega)
  have hf : ∀ (cs : List Int) (f g : Ef → Int → Ef) (a : Ef), (∀ a, ∀ c ∈ cs, f a c = g a c) → cs.foldl f a = cs.foldl g a := by
    intro cs f g
    induction cs with
    | nil => intro a _; rfl
    | cons c r ih => intro a hh; simp only [List.foldl_cons]; rw [hh a c (by simp)]; exact ih _ fun a c hc => hh a c (by simp [hc])
  unfold NE
  rw [hf (kid l i) (pickF es) (pickF us) _ (fun a c hc => by simp only [pickF, hk c hc]), hf (kid l i) (joinF es) (joinF us) _ (fun a c hc => by simp only [joinF, hk c hc])]
theorem NeedP.uniq {l : List Nd} {dep : List Int} (h : TF l dep) {mx : Bool} {lf : Int → Int} {vs us : List Ef} (hv : NeedP l dep mx lf vs) (hu : NeedP l dep mx lf us) : vs = us := by
  have key : ∀ d j : Nat, l.length - j = d → j < l.length → vs.getD j (0, []) = us.getD j (0, []) := by
    intro d
    induction d using Nat.strongRecOn with
    | _ d ih =>
      intro j hd hj
      rw [hv.at_ j hj, hu.at_ j hj]
      exact NE_congr h hj fun q hq hql => ih (l.length - q) (by omega) q rfl hql
  apply List.ext_getElem (by rw [hv.len, hu.len])
  intro j h1 h2
  have := key _ j rfl (by rw [← hv.len]; exact h1)
  simpa [List.getD_eq_getElem?_getD, h1, h2] using this
theorem NE_good {l : List Nd} {dep : List Int} (hT : TF l dep) {mx : Bool} {lf : Int → Int} {es : List Ef} {j : Nat} (hj : j < l.length) (hg : ∀ c ∈ kid l j, GoodE l c (ed es c).2) : GoodE l j (NE l dep mx lf es j).2 := by
  unfold NE
  split
  · rename_i hl
    refine ⟨fun x hx => ?_, by simp⟩
    simp at hx
    subst hx
    exact ⟨by omega, by omega, hl, 0, rfl⟩
  · split
    · exact good_pick hg _ (fun c hc => hc) _ (GoodE.nil _ _)
    · have := (good_join hT hj hg (kid l j).length (Nat.le_refl _)).1
      rw [List.take_length] at this
      exact this
theorem NE_bd {l : List Nd} {dep : List Int} {mx : Bool} {lf : Int → Int} {es : List Ef} {j : Nat} (hlf : leafB l j = true → 0 ≤ lf j ∧ lf j ≤ far) (hb : ∀ c ∈ kid l j, 0 ≤ (ed es c).1 ∧ (ed es c).1 ≤ far) : 0 ≤ (NE l dep mx lf es j).1 ∧ (NE l dep mx lf es j).1 ≤ far := by
  have h1 : ∀ (cs : List Int), (∀ c ∈ cs, c ∈ kid l j) → ∀ a : Ef, 0 ≤ a.1 ∧ a.1 ≤ far → 0 ≤ (cs.foldl (pickF es) a).1 ∧ (cs.foldl (pickF es) a).1 ≤ far := by
    intro cs
    induction cs with
    | nil => intro _ a ha; exact ha
    | cons c r ih =>
      intro hc a ha
      refine ih (fun c h => hc c (by simp [h])) _ ?_
      unfold pickF
      split
      · exact hb c (hc c (by simp))
      · exact ha
  have h2 : ∀ (cs : List Int), (∀ c ∈ cs, c ∈ kid l j) → ∀ a : Ef, 0 ≤ a.1 ∧ a.1 ≤ far → 0 ≤ (cs.foldl (joinF es) a).1 ∧ (cs.foldl (joinF es) a).1 ≤ far := by
    intro cs
    induction cs with
    | nil => intro _ a ha; exact ha
    | cons c r ih =>
      intro hc a ha
      refine ih (fun c h => hc c (by simp [h])) _ ?_
      have := hb c (hc c (by simp))
      simp only [joinF]
      omega
  unfold NE
  split
  · rename_i hl; exact hlf hl
  · split
    · exact h1 _ (fun c hc => hc) _ ⟨by decide, by decide⟩
    · exact h2 _ (fun c hc => hc) _ ⟨by decide, by decide⟩
end Go.Proofs.Ytdiljpnfochndaa.HP
