/- A part of the walk: what this seat's statements share. -/
import Derived.Test.YtdiljpnfochndaaZHT
import Derived.Test.YtdiljpnfochndaaZHP2
set_option linter.unusedSectionVars false
set_option linter.unusedVariables false
set_option linter.unusedSimpArgs false
namespace Go.Proofs.Ytdiljpnfochndaa
open Go Go.RowKit Go.Proofs.Ytdiljpnfochndaa.VW
open Go.Proofs.Ytdiljpnfochndaa.HP (Nd kid wor leafB rd kidsStep nodesStep cnt gameOf)
attribute [local irreducible] W Ops
theorem Below.at_ {w0 w w' : World} {S : Nat → Prop} (h : Below w0.heap.size w0 w) (k : Kp S w w') (hs : ∀ i, S i → w0.heap.size ≤ i) : Below w0.heap.size w0 w' := Kp.then h h.size k hs
structure GCore (l : List Nd) (w0 : World) (tv dv : Value) (g : Nat) (dep : List Int) (seen : Int) (w : World) : Prop where
  bel : Below w0.heap.size w0 w
  blk : Blk w g #[tv, dv] 100
  ge : w0.heap.size ≤ g
  own : w.ownsRow 0 3 1 dv dep.length (dep.map (Value.int .i64))
  ne : ∀ k, dv.ownBlock = some k → w0.heap.size ≤ k ∧ k ≠ g
  len : dep.length = l.length
  seen_eq : seen = 1 + cnt dep
  bd : ∀ j : Nat, 0 ≤ dep.getD j 0 ∧ dep.getD j 0 ≤ j
theorem GCore.kp {l : List Nd} {w0 w w' : World} {tv dv : Value} {g : Nat} {dep : List Int} {seen : Int} {S : Nat → Prop} (h : GCore l w0 tv dv g dep seen w) (k : Kp S w w') (hs : ∀ i, S i → w.heap.size ≤ i ∨ (w0.heap.size ≤ i ∧ i ≠ g ∧ dv.ownBlock ≠ some i)) : GCore l w0 tv dv g dep seen w' := by
  refine ⟨Below.at_ h.bel k (fun i hi => ?_), h.blk.kp k (fun e => ?_), h.ge, own_kp h.own k (fun i hi e => ?_), h.ne, h.len, h.seen_eq, h.bd⟩
  · have := h.bel.size; rcases hs i hi with h | h <;> omega
  · have := h.blk.lt; rcases hs g e with h | h <;> omega
  · have := (h.own.lt i hi).2; rcases hs i e with h | h
    · omega
    · exact h.2.2 hi
set_option maxRecDepth 100000 in
theorem newGame_c {w : World} {v : Value} {l : List Nd} (hT : TreeM w v l) (hl : l.length ≤ 9223372036854775807) :
    Calls Try.prog 55 #[v] w (Ret fun r w' => Below w.heap.size w w' ∧ match gameOf l with
      | none => ∃ p, p.oneCell' = true ∧ r = .tuple #[p, .bool false]
      | some dep => ∃ g, r = .tuple #[.pointer (some ⟨g, 0, none⟩), .bool true] ∧ w.heap.size ≤ g ∧ Game w' g l dep) := by
  obtain ⟨A, c, rfl⟩ := hT.sl
  refine calls_W (vs := [_]) Try.func55 rfl (by kernel_rfl) rfl ?_
  (repeat (first | with_reducible refine W.seq ?_ | with_reducible refine Ops.nil ?_ | with_reducible refine W.region ?_ | refine Ops.pu rfl rfl rfl ?_ | refine Ops.ar rfl rfl rfl (by omega) ?_ | refine Ops.yes rfl rfl rfl ?_ | refine Ops.no rfl rfl rfl rfl rfl ?_ | refine Ops.nu rfl rfl rfl rfl ?_ | with_reducible refine W.skip ?_ | with_reducible refine W.endb ?_ | with_reducible refine W.block ?_ | refine W.exit rfl ?_ | refine Ops.len rfl rfl rfl rfl rfl ?_ | refine Ops.flp rfl rfl rfl rfl rfl ?_ | refine Ops.max rfl rfl rfl rfl rfl ?_ | refine Ops.min rfl rfl rfl rfl rfl ?_ | refine Ops.eqB rfl rfl rfl rfl rfl rfl ?_ | refine Ops.neB rfl rfl rfl rfl rfl rfl ?_ | (apply Ops.ldB rfl rfl rfl rfl rfl; assumption; rfl)))
  refine Ops.callS rfl rfl rfl rfl rfl (within_c _ _ _ _) ?_
  (repeat (first | with_reducible refine W.seq ?_ | with_reducible refine Ops.nil ?_ | with_reducible refine W.region ?_ | refine Ops.pu rfl rfl rfl ?_ | refine Ops.ar rfl rfl rfl (by omega) ?_ | refine Ops.yes rfl rfl rfl ?_ | refine Ops.no rfl rfl rfl rfl rfl ?_ | refine Ops.nu rfl rfl rfl rfl ?_ | with_reducible refine W.skip ?_ | with_reducible refine W.endb ?_ | with_reducible refine W.block ?_ | refine W.exit rfl ?_ | refine Ops.len rfl rfl rfl rfl rfl ?_ | refine Ops.flp rfl rfl rfl rfl rfl ?_ | refine Ops.max rfl rfl rfl rfl rfl ?_ | refine Ops.min rfl rfl rfl rfl rfl ?_ | refine Ops.eqB rfl rfl rfl rfl rfl rfl ?_ | refine Ops.neB rfl rfl rfl rfl rfl rfl ?_ | (apply Ops.ldB rfl rfl rfl rfl rfl; assumption; rfl)))
  refine W.cond rfl (fun hc => ?_) (fun hc => ?_)
  · (repeat (first | with_reducible refine W.seq ?_ | with_reducible refine Ops.nil ?_ | with_reducible refine W.region ?_ | refine Ops.pu rfl rfl rfl ?_ | refine Ops.ar rfl rfl rfl (by omega) ?_ | refine Ops.yes rfl rfl rfl ?_ | refine Ops.no rfl rfl rfl rfl rfl ?_ | refine Ops.nu rfl rfl rfl rfl ?_ | with_reducible refine W.skip ?_ | with_reducible refine W.endb ?_ | with_reducible refine W.block ?_ | refine W.exit rfl ?_ | refine Ops.len rfl rfl rfl rfl rfl ?_ | refine Ops.flp rfl rfl rfl rfl rfl ?_ | refine Ops.max rfl rfl rfl rfl rfl ?_ | refine Ops.min rfl rfl rfl rfl rfl ?_ | refine Ops.eqB rfl rfl rfl rfl rfl rfl ?_ | refine Ops.neB rfl rfl rfl rfl rfl rfl ?_ | (apply Ops.ldB rfl rfl rfl rfl rfl; assumption; rfl)))
    have hg : gameOf l = none := by
      simp only [gameOf]
      rw [if_neg]
      simp at hc
      omega
    refine W.fret rfl ⟨Below.refl _ _, ?_⟩
    rw [hg]
    exact ⟨_, rfl, rfl⟩
  have hn : 1 ≤ l.length ∧ l.length ≤ 60 := by simp at hc; omega
  (repeat (first | with_reducible refine W.seq ?_ | with_reducible refine Ops.nil ?_ | with_reducible refine W.region ?_ | refine Ops.pu rfl rfl rfl ?_ | refine Ops.ar rfl rfl rfl (by omega) ?_ | refine Ops.yes rfl rfl rfl ?_ | refine Ops.no rfl rfl rfl rfl rfl ?_ | refine Ops.nu rfl rfl rfl rfl ?_ | with_reducible refine W.skip ?_ | with_reducible refine W.endb ?_ | with_reducible refine W.block ?_ | refine W.exit rfl ?_ | refine Ops.len rfl rfl rfl rfl rfl ?_ | refine Ops.flp rfl rfl rfl rfl rfl ?_ | refine Ops.max rfl rfl rfl rfl rfl ?_ | refine Ops.min rfl rfl rfl rfl rfl ?_ | refine Ops.eqB rfl rfl rfl rfl rfl rfl ?_ | refine Ops.neB rfl rfl rfl rfl rfl rfl ?_ | (apply Ops.ldB rfl rfl rfl rfl rfl; assumption; rfl)))
  refine Ops.mkS rfl rfl rfl rfl rfl rfl rfl rfl rfl (by omega) (by simp; omega) (fun w1 dr hdr k1 hdl hown => ?_)
  simp only [Int.toNat_natCast] at hown ⊢
  rw [show l.length * 1 = l.length from Nat.mul_one _, madeCells_one rfl] at hown
  refine Ops.bld2 rfl rfl rfl rfl rfl rfl rfl rfl rfl ?_
  refine Ops.box rfl rfl rfl rfl (fun w2 g hM => ?_)
  (repeat (first | with_reducible refine W.seq ?_ | with_reducible refine Ops.nil ?_ | with_reducible refine W.region ?_ | refine Ops.pu rfl rfl rfl ?_ | refine Ops.ar rfl rfl rfl (by omega) ?_ | refine Ops.yes rfl rfl rfl ?_ | refine Ops.no rfl rfl rfl rfl rfl ?_ | refine Ops.nu rfl rfl rfl rfl ?_ | with_reducible refine W.skip ?_ | with_reducible refine W.endb ?_ | with_reducible refine W.block ?_ | refine W.exit rfl ?_ | refine Ops.len rfl rfl rfl rfl rfl ?_ | refine Ops.flp rfl rfl rfl rfl rfl ?_ | refine Ops.max rfl rfl rfl rfl rfl ?_ | refine Ops.min rfl rfl rfl rfl rfl ?_ | refine Ops.eqB rfl rfl rfl rfl rfl rfl ?_ | refine Ops.neB rfl rfl rfl rfl rfl rfl ?_ | (apply Ops.ldB rfl rfl rfl rfl rfl; assumption; rfl)))
  have hg0 : g = w1.heap.size := hM.r_eq
  have hk2 : Kp (fun _ => False) w w2 := (k1.trans hM.kp).mono (by simp)
  have hC0 : GCore l w (.slice A l.length c) (.slice (some ⟨dr, 0, none⟩) l.length l.length) g (List.replicate l.length 0) 1 w2 := by
    refine ⟨hk2.below (Nat.le_refl _) (fun _ _ e => e), hM.at_, by rw [hg0]; exact k1.size, ?_, ?_, by simp, ?_, ?_⟩
    · have := own_kp hown hM.kp (fun _ _ e => e)
      simpa using this
    · intro k hk
      simp [Value.ownBlock] at hk
      omega
    · have : cnt (List.replicate l.length 0) = 0 := by simp [cnt, List.countP_replicate]
      rw [this]; rfl
    · intro j
      have : (List.replicate l.length (0 : Int)).getD j 0 = 0 := by
        rw [List.getD_eq_getElem?_getD, List.getElem?_replicate]; split <;> rfl
      omega
  clear hown hk2 k1 hM
  generalize hR : nodesStep l.length 0 l (List.replicate l.length 0) = R at *
  refine W.loop (fun m ρ w3 => ∃ (i : Nat) (dep : List Int) (seen : Int), m = l.length - i ∧ i ≤ l.length ∧
      ρ = [(4, .int .i64 l.length), (5, .pointer (some ⟨g, 0, none⟩)), (6, .int .i64 seen), (21, .slice A l.length c), (22, .int .i64 l.length), (23, .int .i64 i)] ∧
      GCore l w (.slice A l.length c) (.slice (some ⟨dr, 0, none⟩) l.length l.length) g dep seen w3 ∧ nodesStep l.length i (l.drop i) dep = R)
    ⟨_, _, ⟨0, _, _, rfl, Nat.zero_le _, rfl, hC0, hR⟩, (by repeat (first | exact trivial | refine And.intro rfl ?_))⟩ ?_
  rintro m ρ w3 ⟨i, dep, seen, rfl, hi, rfl, hC, hR'⟩
  (repeat (first | with_reducible refine W.seq ?_ | with_reducible refine Ops.nil ?_ | with_reducible refine W.region ?_ | refine Ops.pu rfl rfl rfl ?_ | refine Ops.ar rfl rfl rfl (by omega) ?_ | refine Ops.yes rfl rfl rfl ?_ | refine Ops.no rfl rfl rfl rfl rfl ?_ | refine Ops.nu rfl rfl rfl rfl ?_ | with_reducible refine W.skip ?_ | with_reducible refine W.endb ?_ | with_reducible refine W.block ?_ | refine W.exit rfl ?_ | refine Ops.len rfl rfl rfl rfl rfl ?_ | refine Ops.flp rfl rfl rfl rfl rfl ?_ | refine Ops.max rfl rfl rfl rfl rfl ?_ | refine Ops.min rfl rfl rfl rfl rfl ?_ | refine Ops.eqB rfl rfl rfl rfl rfl rfl ?_ | refine Ops.neB rfl rfl rfl rfl rfl rfl ?_ | (apply Ops.ldB rfl rfl rfl rfl rfl; assumption; rfl)))
  refine W.cond rfl (fun hc => ?_) (fun hc => ?_)
  · have hlt : i < l.length := by simp at hc; omega
    (repeat (first | with_reducible refine W.seq ?_ | with_reducible refine Ops.nil ?_ | with_reducible refine W.region ?_ | refine Ops.pu rfl rfl rfl ?_ | refine Ops.ar rfl rfl rfl (by omega) ?_ | refine Ops.yes rfl rfl rfl ?_ | refine Ops.no rfl rfl rfl rfl rfl ?_ | refine Ops.nu rfl rfl rfl rfl ?_ | with_reducible refine W.skip ?_ | with_reducible refine W.endb ?_ | with_reducible refine W.block ?_ | refine W.exit rfl ?_ | refine Ops.len rfl rfl rfl rfl rfl ?_ | refine Ops.flp rfl rfl rfl rfl rfl ?_ | refine Ops.max rfl rfl rfl rfl rfl ?_ | refine Ops.min rfl rfl rfl rfl rfl ?_ | refine Ops.eqB rfl rfl rfl rfl rfl rfl ?_ | refine Ops.neB rfl rfl rfl rfl rfl rfl ?_ | (apply Ops.ldB rfl rfl rfl rfl rfl; assumption; rfl)))
    refine Ops.rdN rfl rfl rfl rfl rfl rfl rfl rfl rfl rfl rfl rfl hT hC.bel (by omega) (by omega) (fun cv p hcv => ?_)
    refine Ops.alloc rfl rfl rfl rfl (fun w4 x hx => ?_)
    (repeat (first | with_reducible refine W.seq ?_ | with_reducible refine Ops.nil ?_ | with_reducible refine W.region ?_ | refine Ops.pu rfl rfl rfl ?_ | refine Ops.ar rfl rfl rfl (by omega) ?_ | refine Ops.yes rfl rfl rfl ?_ | refine Ops.no rfl rfl rfl rfl rfl ?_ | refine Ops.nu rfl rfl rfl rfl ?_ | with_reducible refine W.skip ?_ | with_reducible refine W.endb ?_ | with_reducible refine W.block ?_ | refine W.exit rfl ?_ | refine Ops.len rfl rfl rfl rfl rfl ?_ | refine Ops.flp rfl rfl rfl rfl rfl ?_ | refine Ops.max rfl rfl rfl rfl rfl ?_ | refine Ops.min rfl rfl rfl rfl rfl ?_ | refine Ops.eqB rfl rfl rfl rfl rfl rfl ?_ | refine Ops.neB rfl rfl rfl rfl rfl rfl ?_ | (apply Ops.ldB rfl rfl rfl rfl rfl; assumption; rfl)))
    obtain ⟨Ac, cc, rfl⟩ := Sl.sl hcv
    refine Ops.st2 rfl rfl rfl rfl rfl rfl rfl rfl hx.at_ (fun w5 hu => ?_)
    (repeat (first | with_reducible refine W.seq ?_ | with_reducible refine Ops.nil ?_ | with_reducible refine W.region ?_ | refine Ops.pu rfl rfl rfl ?_ | refine Ops.ar rfl rfl rfl (by omega) ?_ | refine Ops.yes rfl rfl rfl ?_ | refine Ops.no rfl rfl rfl rfl rfl ?_ | refine Ops.nu rfl rfl rfl rfl ?_ | with_reducible refine W.skip ?_ | with_reducible refine W.endb ?_ | with_reducible refine W.block ?_ | refine W.exit rfl ?_ | refine Ops.len rfl rfl rfl rfl rfl ?_ | refine Ops.flp rfl rfl rfl rfl rfl ?_ | refine Ops.max rfl rfl rfl rfl rfl ?_ | refine Ops.min rfl rfl rfl rfl rfl ?_ | refine Ops.eqB rfl rfl rfl rfl rfl rfl ?_ | refine Ops.neB rfl rfl rfl rfl rfl rfl ?_ | (apply Ops.ldB rfl rfl rfl rfl rfl; assumption; rfl)))
    have hk5 : Kp (fun j => False ∨ j = x) w3 w5 := hx.kp.trans hu.kp
    have hC5 : GCore l w (.slice A l.length c) (.slice (some ⟨dr, 0, none⟩) l.length l.length) g dep seen w5 :=
      hC.kp hk5 (fun j hj => .inl (by rcases hj with hj | hj; exact hj.elim; rw [hj, hx.r_eq]; exact Nat.le_refl _))
    have hD5 : SlI w5 (.slice (some ⟨dr, 0, none⟩) l.length l.length) dep := by
      have := own_sl (z := (0 : Int)) hC5.own
      exact this
    have hX5 := hu.blk
    refine Ops.cut (fun ρ w' => ∃ b : Bool, ρ = [(4, .int .i64 l.length), (5, .pointer (some ⟨g, 0, none⟩)), (6, .int .i64 seen), (7, .int .i64 i), (8, .pointer (some ⟨x, 0, none⟩)), (21, .slice A l.length c), (22, .int .i64 l.length), (23, .int .i64 i), (56, .bool b)] ∧ w' = w5 ∧
      (b = true ↔ (0 < (i : Int) ∧ rd dep i = 0) ∨ ¬ (-100 ≤ wor l i ∧ wor l i ≤ 100) ∨ (0 < (kid l i).length ∧ wor l i ≠ 0))) ?_ ?_
    · have hB5 := hC5.blk
      (repeat' (first | with_reducible refine W.seq ?_ | with_reducible refine Ops.nil ?_ | with_reducible refine W.region ?_ | refine Ops.pu rfl rfl rfl ?_ | refine Ops.ar rfl rfl rfl (by omega) ?_ | refine Ops.yes rfl rfl rfl ?_ | refine Ops.no rfl rfl rfl rfl rfl ?_ | refine Ops.nu rfl rfl rfl rfl ?_ | with_reducible refine W.skip ?_ | with_reducible refine W.endb ?_ | with_reducible refine W.block ?_ | refine W.exit rfl ?_ | refine Ops.len rfl rfl rfl rfl rfl ?_ | refine Ops.flp rfl rfl rfl rfl rfl ?_ | refine Ops.max rfl rfl rfl rfl rfl ?_ | refine Ops.min rfl rfl rfl rfl rfl ?_ | refine Ops.eqB rfl rfl rfl rfl rfl rfl ?_ | refine Ops.neB rfl rfl rfl rfl rfl rfl ?_ | (apply Ops.ldB rfl rfl rfl rfl rfl; assumption; rfl) | refine Ops.gdT rfl rfl rfl rfl (fun _ => ?_) (fun _ => ?_) | refine Ops.gdF rfl rfl rfl rfl (fun _ => ?_) (fun _ => ?_) | refine Ops.callS rfl rfl rfl rfl rfl (within_c _ _ _ _) ?_ | (refine Ops.rdSg (enc := Value.int .i64) (z := (0 : Int)) rfl rfl rfl rfl rfl rfl rfl rfl rfl rfl rfl rfl rfl rfl hD5 (by omega) (by have := hC5.len; omega) (fun p => ?_))))
      all_goals refine W.endl ⟨_, ⟨_, rfl, rfl, ?_⟩, (by repeat (first | exact trivial | refine And.intro rfl ?_))⟩
      all_goals clear hC hC5 hX5 hB5 hD5 hC0 hT hcv hu hx hR hR' hk5
      all_goals simp_all
      all_goals omega
    · rintro ρ w5 ⟨b, rfl, rfl, hb⟩
      have hgame : gameOf l = R.bind fun dep => if 1 + cnt dep = l.length then some dep else none := by
        simp only [gameOf]
        rw [if_pos hn, hR]
      rw [Go.Proofs.Ytdiljpnfochndaa.HP.nodes_at _ _ _ _ hlt] at hR'
      (repeat (first | with_reducible refine W.seq ?_ | with_reducible refine Ops.nil ?_ | with_reducible refine W.region ?_ | refine Ops.pu rfl rfl rfl ?_ | refine Ops.ar rfl rfl rfl (by omega) ?_ | refine Ops.yes rfl rfl rfl ?_ | refine Ops.no rfl rfl rfl rfl rfl ?_ | refine Ops.nu rfl rfl rfl rfl ?_ | with_reducible refine W.skip ?_ | with_reducible refine W.endb ?_ | with_reducible refine W.block ?_ | refine W.exit rfl ?_ | refine Ops.len rfl rfl rfl rfl rfl ?_ | refine Ops.flp rfl rfl rfl rfl rfl ?_ | refine Ops.max rfl rfl rfl rfl rfl ?_ | refine Ops.min rfl rfl rfl rfl rfl ?_ | refine Ops.eqB rfl rfl rfl rfl rfl rfl ?_ | refine Ops.neB rfl rfl rfl rfl rfl rfl ?_ | (apply Ops.ldB rfl rfl rfl rfl rfl; assumption; rfl)))
      refine W.cond rfl (fun hc => ?_) (fun hc => ?_)
      · (repeat (first | with_reducible refine W.seq ?_ | with_reducible refine Ops.nil ?_ | with_reducible refine W.region ?_ | refine Ops.pu rfl rfl rfl ?_ | refine Ops.ar rfl rfl rfl (by omega) ?_ | refine Ops.yes rfl rfl rfl ?_ | refine Ops.no rfl rfl rfl rfl rfl ?_ | refine Ops.nu rfl rfl rfl rfl ?_ | with_reducible refine W.skip ?_ | with_reducible refine W.endb ?_ | with_reducible refine W.block ?_ | refine W.exit rfl ?_ | refine Ops.len rfl rfl rfl rfl rfl ?_ | refine Ops.flp rfl rfl rfl rfl rfl ?_ | refine Ops.max rfl rfl rfl rfl rfl ?_ | refine Ops.min rfl rfl rfl rfl rfl ?_ | refine Ops.eqB rfl rfl rfl rfl rfl rfl ?_ | refine Ops.neB rfl rfl rfl rfl rfl rfl ?_ | (apply Ops.ldB rfl rfl rfl rfl rfl; assumption; rfl)))
        rw [if_pos (by have := hb.1 hc; exact this)] at hR'
        refine W.fret rfl ⟨hC5.bel, ?_⟩
        rw [hgame, ← hR']
        exact ⟨_, rfl, rfl⟩
      · rw [if_neg (by intro h; have := hb.2 h; rw [hc] at this; simp at this)] at hR'
        (repeat (first | with_reducible refine W.seq ?_ | with_reducible refine Ops.nil ?_ | with_reducible refine W.region ?_ | refine Ops.pu rfl rfl rfl ?_ | refine Ops.ar rfl rfl rfl (by omega) ?_ | refine Ops.yes rfl rfl rfl ?_ | refine Ops.no rfl rfl rfl rfl rfl ?_ | refine Ops.nu rfl rfl rfl rfl ?_ | with_reducible refine W.skip ?_ | with_reducible refine W.endb ?_ | with_reducible refine W.block ?_ | refine W.exit rfl ?_ | refine Ops.len rfl rfl rfl rfl rfl ?_ | refine Ops.flp rfl rfl rfl rfl rfl ?_ | refine Ops.max rfl rfl rfl rfl rfl ?_ | refine Ops.min rfl rfl rfl rfl rfl ?_ | refine Ops.eqB rfl rfl rfl rfl rfl rfl ?_ | refine Ops.neB rfl rfl rfl rfl rfl rfl ?_ | (apply Ops.ldB rfl rfl rfl rfl rfl; assumption; rfl)))
        clear hb hc
        refine W.loop (fun m ρ w6 => ∃ (j : Nat) (dep : List Int) (seen : Int), m = (kid l i).length - j ∧ j ≤ (kid l i).length ∧
            ρ = [(4, .int .i64 l.length), (5, .pointer (some ⟨g, 0, none⟩)), (6, .int .i64 seen), (7, .int .i64 i), (21, .slice A l.length c), (22, .int .i64 l.length), (23, .int .i64 i), (58, .slice Ac (kid l i).length cc), (59, .int .i64 (kid l i).length), (60, .int .i64 j)] ∧
            GCore l w (.slice A l.length c) (.slice (some ⟨dr, 0, none⟩) l.length l.length) g dep seen w6 ∧ (kidsStep l.length i ((kid l i).drop j) dep).bind (nodesStep l.length (i + 1) (l.drop (i + 1))) = R)
          ⟨_, _, ⟨0, _, _, rfl, Nat.zero_le _, rfl, hC5, hR'⟩, (by repeat (first | exact trivial | refine And.intro rfl ?_))⟩ ?_
        clear hC hC5 hX5 hD5 hC0 hu hx hR' hk5
        rintro m ρ w6 ⟨j, dep, seen, rfl, hj, rfl, hC, hR'⟩
        (repeat (first | with_reducible refine W.seq ?_ | with_reducible refine Ops.nil ?_ | with_reducible refine W.region ?_ | refine Ops.pu rfl rfl rfl ?_ | refine Ops.ar rfl rfl rfl (by omega) ?_ | refine Ops.yes rfl rfl rfl ?_ | refine Ops.no rfl rfl rfl rfl rfl ?_ | refine Ops.nu rfl rfl rfl rfl ?_ | with_reducible refine W.skip ?_ | with_reducible refine W.endb ?_ | with_reducible refine W.block ?_ | refine W.exit rfl ?_ | refine Ops.len rfl rfl rfl rfl rfl ?_ | refine Ops.flp rfl rfl rfl rfl rfl ?_ | refine Ops.max rfl rfl rfl rfl rfl ?_ | refine Ops.min rfl rfl rfl rfl rfl ?_ | refine Ops.eqB rfl rfl rfl rfl rfl rfl ?_ | refine Ops.neB rfl rfl rfl rfl rfl rfl ?_ | (apply Ops.ldB rfl rfl rfl rfl rfl; assumption; rfl)))
        refine W.cond rfl (fun hc => ?_) (fun hc => ?_)
        · have hjl : j < (kid l i).length := by simp at hc; omega
          (repeat (first | with_reducible refine W.seq ?_ | with_reducible refine Ops.nil ?_ | with_reducible refine W.region ?_ | refine Ops.pu rfl rfl rfl ?_ | refine Ops.ar rfl rfl rfl (by omega) ?_ | refine Ops.yes rfl rfl rfl ?_ | refine Ops.no rfl rfl rfl rfl rfl ?_ | refine Ops.nu rfl rfl rfl rfl ?_ | with_reducible refine W.skip ?_ | with_reducible refine W.endb ?_ | with_reducible refine W.block ?_ | refine W.exit rfl ?_ | refine Ops.len rfl rfl rfl rfl rfl ?_ | refine Ops.flp rfl rfl rfl rfl rfl ?_ | refine Ops.max rfl rfl rfl rfl rfl ?_ | refine Ops.min rfl rfl rfl rfl rfl ?_ | refine Ops.eqB rfl rfl rfl rfl rfl rfl ?_ | refine Ops.neB rfl rfl rfl rfl rfl rfl ?_ | (apply Ops.ldB rfl rfl rfl rfl rfl; assumption; rfl)))
          refine Ops.rdS (enc := Value.int .i64) (z := (0 : Int)) rfl rfl rfl rfl rfl rfl rfl rfl rfl rfl rfl (Sl.below hcv hC.bel) (by omega) (by omega) (fun p => ?_)
          simp only [Int.toNat_natCast]
          have hR2 := hR'
          rw [Go.Proofs.Ytdiljpnfochndaa.HP.kids_at _ _ _ _ _ hjl] at hR'
          generalize hcd : (kid l i).getD j 0 = cd at *
          have hD : SlI w6 (.slice (some ⟨dr, 0, none⟩) l.length l.length) dep := by
            have := own_sl (z := (0 : Int)) hC.own
            exact this
          have hB6 := hC.blk
          have hkl := Sl.len hcv
          (repeat (first | with_reducible refine W.seq ?_ | with_reducible refine Ops.nil ?_ | with_reducible refine W.region ?_ | refine Ops.pu rfl rfl rfl ?_ | refine Ops.ar rfl rfl rfl (by omega) ?_ | refine Ops.yes rfl rfl rfl ?_ | refine Ops.no rfl rfl rfl rfl rfl ?_ | refine Ops.nu rfl rfl rfl rfl ?_ | with_reducible refine W.skip ?_ | with_reducible refine W.endb ?_ | with_reducible refine W.block ?_ | refine W.exit rfl ?_ | refine Ops.len rfl rfl rfl rfl rfl ?_ | refine Ops.flp rfl rfl rfl rfl rfl ?_ | refine Ops.max rfl rfl rfl rfl rfl ?_ | refine Ops.min rfl rfl rfl rfl rfl ?_ | refine Ops.eqB rfl rfl rfl rfl rfl rfl ?_ | refine Ops.neB rfl rfl rfl rfl rfl rfl ?_ | (apply Ops.ldB rfl rfl rfl rfl rfl; assumption; rfl)))
          refine Ops.callS rfl rfl rfl rfl rfl (within_c _ _ _ _) ?_
          refine Ops.cut (fun ρ w' => ∃ b : Bool, ρ = [(4, .int .i64 l.length), (5, .pointer (some ⟨g, 0, none⟩)), (6, .int .i64 seen), (7, .int .i64 i), (10, .int .i64 cd), (21, .slice A l.length c), (22, .int .i64 l.length), (23, .int .i64 i), (58, .slice Ac (kid l i).length cc), (59, .int .i64 (kid l i).length), (60, .int .i64 j), (80, .bool b)] ∧ w' = w6 ∧
            (b = false ↔ (i : Int) + 1 ≤ cd ∧ cd ≤ l.length - 1 ∧ rd dep cd ≤ 0)) ?_ ?_
          · (repeat' (first | with_reducible refine W.seq ?_ | with_reducible refine Ops.nil ?_ | with_reducible refine W.region ?_ | refine Ops.pu rfl rfl rfl ?_ | refine Ops.ar rfl rfl rfl (by omega) ?_ | refine Ops.yes rfl rfl rfl ?_ | refine Ops.no rfl rfl rfl rfl rfl ?_ | refine Ops.nu rfl rfl rfl rfl ?_ | with_reducible refine W.skip ?_ | with_reducible refine W.endb ?_ | with_reducible refine W.block ?_ | refine W.exit rfl ?_ | refine Ops.len rfl rfl rfl rfl rfl ?_ | refine Ops.flp rfl rfl rfl rfl rfl ?_ | refine Ops.max rfl rfl rfl rfl rfl ?_ | refine Ops.min rfl rfl rfl rfl rfl ?_ | refine Ops.eqB rfl rfl rfl rfl rfl rfl ?_ | refine Ops.neB rfl rfl rfl rfl rfl rfl ?_ | (apply Ops.ldB rfl rfl rfl rfl rfl; assumption; rfl) | refine Ops.gdT rfl rfl rfl rfl (fun _ => ?_) (fun _ => ?_) | refine Ops.gdF rfl rfl rfl rfl (fun _ => ?_) (fun _ => ?_) | (refine Ops.rdSg (enc := Value.int .i64) (z := (0 : Int)) rfl rfl rfl rfl rfl rfl rfl rfl rfl rfl rfl rfl rfl rfl hD (by rename_i hh; simp at hh; omega) (by rename_i hh; simp at hh; have := hC.len; omega) (fun p => ?_))))
            all_goals refine W.endl ⟨_, ⟨_, rfl, rfl, ?_⟩, (by repeat (first | exact trivial | refine And.intro rfl ?_))⟩
            · rename_i hh
              clear hC hcv hB6 hD hR' hR2 hT
              simp at hh
              simp
              omega
            · rename_i hh
              clear hC hcv hB6 hD hR' hR2 hT
              simp at hh
              simp [rd]
              omega
          · rintro ρ w6 ⟨b, rfl, rfl, hb⟩
            (repeat (first | with_reducible refine W.seq ?_ | with_reducible refine Ops.nil ?_ | with_reducible refine W.region ?_ | refine Ops.pu rfl rfl rfl ?_ | refine Ops.ar rfl rfl rfl (by omega) ?_ | refine Ops.yes rfl rfl rfl ?_ | refine Ops.no rfl rfl rfl rfl rfl ?_ | refine Ops.nu rfl rfl rfl rfl ?_ | with_reducible refine W.skip ?_ | with_reducible refine W.endb ?_ | with_reducible refine W.block ?_ | refine W.exit rfl ?_ | refine Ops.len rfl rfl rfl rfl rfl ?_ | refine Ops.flp rfl rfl rfl rfl rfl ?_ | refine Ops.max rfl rfl rfl rfl rfl ?_ | refine Ops.min rfl rfl rfl rfl rfl ?_ | refine Ops.eqB rfl rfl rfl rfl rfl rfl ?_ | refine Ops.neB rfl rfl rfl rfl rfl rfl ?_ | (apply Ops.ldB rfl rfl rfl rfl rfl; assumption; rfl)))
            refine W.cond rfl (fun hc => ?_) (fun hc => ?_)
            · (repeat (first | with_reducible refine W.seq ?_ | with_reducible refine Ops.nil ?_ | with_reducible refine W.region ?_ | refine Ops.pu rfl rfl rfl ?_ | refine Ops.ar rfl rfl rfl (by omega) ?_ | refine Ops.yes rfl rfl rfl ?_ | refine Ops.no rfl rfl rfl rfl rfl ?_ | refine Ops.nu rfl rfl rfl rfl ?_ | with_reducible refine W.skip ?_ | with_reducible refine W.endb ?_ | with_reducible refine W.block ?_ | refine W.exit rfl ?_ | refine Ops.len rfl rfl rfl rfl rfl ?_ | refine Ops.flp rfl rfl rfl rfl rfl ?_ | refine Ops.max rfl rfl rfl rfl rfl ?_ | refine Ops.min rfl rfl rfl rfl rfl ?_ | refine Ops.eqB rfl rfl rfl rfl rfl rfl ?_ | refine Ops.neB rfl rfl rfl rfl rfl rfl ?_ | (apply Ops.ldB rfl rfl rfl rfl rfl; assumption; rfl)))
              rw [if_neg (by intro h; have := hb.2 h; rw [hc] at this; simp at this)] at hR'
              refine W.fret rfl ⟨hC.bel, ?_⟩
              rw [hgame, ← hR']
              exact ⟨_, rfl, rfl⟩
            · have hcd3 := hb.1 hc
              rw [if_pos hcd3] at hR'
              (repeat (first | with_reducible refine W.seq ?_ | with_reducible refine Ops.nil ?_ | with_reducible refine W.region ?_ | refine Ops.pu rfl rfl rfl ?_ | refine Ops.ar rfl rfl rfl (by omega) ?_ | refine Ops.yes rfl rfl rfl ?_ | refine Ops.no rfl rfl rfl rfl rfl ?_ | refine Ops.nu rfl rfl rfl rfl ?_ | with_reducible refine W.skip ?_ | with_reducible refine W.endb ?_ | with_reducible refine W.block ?_ | refine W.exit rfl ?_ | refine Ops.len rfl rfl rfl rfl rfl ?_ | refine Ops.flp rfl rfl rfl rfl rfl ?_ | refine Ops.max rfl rfl rfl rfl rfl ?_ | refine Ops.min rfl rfl rfl rfl rfl ?_ | refine Ops.eqB rfl rfl rfl rfl rfl rfl ?_ | refine Ops.neB rfl rfl rfl rfl rfl rfl ?_ | (apply Ops.ldB rfl rfl rfl rfl rfl; assumption; rfl)))
              refine W.tail' 13 rfl (by kernel_rfl) (fun w7 k7 _ => ?_)
              have hC7 := hC.kp k7 (fun _ e => e.elim)
              have hD7 := Sl.kp hD k7 (fun _ _ e => e)
              have hB7 := hC7.blk
              have hbi := hC.bd i
              have hlen := hC.len
              (repeat (first | with_reducible refine W.seq ?_ | with_reducible refine Ops.nil ?_ | with_reducible refine W.region ?_ | refine Ops.pu rfl rfl rfl ?_ | refine Ops.ar rfl rfl rfl (by omega) ?_ | refine Ops.yes rfl rfl rfl ?_ | refine Ops.no rfl rfl rfl rfl rfl ?_ | refine Ops.nu rfl rfl rfl rfl ?_ | with_reducible refine W.skip ?_ | with_reducible refine W.endb ?_ | with_reducible refine W.block ?_ | refine W.exit rfl ?_ | refine Ops.len rfl rfl rfl rfl rfl ?_ | refine Ops.flp rfl rfl rfl rfl rfl ?_ | refine Ops.max rfl rfl rfl rfl rfl ?_ | refine Ops.min rfl rfl rfl rfl rfl ?_ | refine Ops.eqB rfl rfl rfl rfl rfl rfl ?_ | refine Ops.neB rfl rfl rfl rfl rfl rfl ?_ | (apply Ops.ldB rfl rfl rfl rfl rfl; assumption; rfl)))
              refine Ops.rdS (enc := Value.int .i64) (z := (0 : Int)) rfl rfl rfl rfl rfl rfl rfl rfl rfl rfl rfl hD7 (by omega) (by omega) (fun p => ?_)
              simp only [Int.toNat_natCast]
              (repeat (first | with_reducible refine W.seq ?_ | with_reducible refine Ops.nil ?_ | with_reducible refine W.region ?_ | refine Ops.pu rfl rfl rfl ?_ | refine Ops.ar rfl rfl rfl (by omega) ?_ | refine Ops.yes rfl rfl rfl ?_ | refine Ops.no rfl rfl rfl rfl rfl ?_ | refine Ops.nu rfl rfl rfl rfl ?_ | with_reducible refine W.skip ?_ | with_reducible refine W.endb ?_ | with_reducible refine W.block ?_ | refine W.exit rfl ?_ | refine Ops.len rfl rfl rfl rfl rfl ?_ | refine Ops.flp rfl rfl rfl rfl rfl ?_ | refine Ops.max rfl rfl rfl rfl rfl ?_ | refine Ops.min rfl rfl rfl rfl rfl ?_ | refine Ops.eqB rfl rfl rfl rfl rfl rfl ?_ | refine Ops.neB rfl rfl rfl rfl rfl rfl ?_ | (apply Ops.ldB rfl rfl rfl rfl rfl; assumption; rfl)))
              refine Ops.nilS rfl ?_
              refine Ops.wrS rfl rfl rfl rfl rfl rfl rfl rfl rfl rfl rfl rfl (by simp) rfl hC7.own (by omega) (by omega) (fun w8 p hown k8 _ => ?_)
              have hcnt : cnt (dep.set cd.toNat (dep.getD i 0 + 1)) = cnt dep + 1 := Go.Proofs.Ytdiljpnfochndaa.HP.cnt_set (by omega) hcd3.2.2 (by omega)
              have hcle := Go.Proofs.Ytdiljpnfochndaa.HP.cnt_le dep
              have hse := hC.seen_eq
              have hC8 : GCore l w (.slice A l.length c) (.slice (some ⟨dr, 0, none⟩) l.length l.length) g (dep.set cd.toNat (dep.getD i 0 + 1)) (seen + 1) w8 := by
                refine ⟨Below.at_ hC7.bel k8 (fun i hi => (hC.ne i hi).1), hC7.blk.kp k8 (fun e => (hC.ne g e).2 rfl), hC.ge, ?_, hC.ne, by simpa using hC.len, by rw [hcnt]; omega, ?_⟩
                · rw [List.map_set, List.length_set]; exact hown
                · intro q
                  have hq := hC.bd q
                  by_cases e : cd.toNat = q
                  · subst e
                    rw [List.getD_eq_getElem?_getD, List.getElem?_set_self (by omega)]
                    simp only [Option.getD_some]
                    omega
                  · rw [List.getD_eq_getElem?_getD, List.getElem?_set_ne e, ← List.getD_eq_getElem?_getD]; exact hq
              (repeat (first | with_reducible refine W.seq ?_ | with_reducible refine Ops.nil ?_ | with_reducible refine W.region ?_ | refine Ops.pu rfl rfl rfl ?_ | refine Ops.ar rfl rfl rfl (by omega) ?_ | refine Ops.yes rfl rfl rfl ?_ | refine Ops.no rfl rfl rfl rfl rfl ?_ | refine Ops.nu rfl rfl rfl rfl ?_ | with_reducible refine W.skip ?_ | with_reducible refine W.endb ?_ | with_reducible refine W.block ?_ | refine W.exit rfl ?_ | refine Ops.len rfl rfl rfl rfl rfl ?_ | refine Ops.flp rfl rfl rfl rfl rfl ?_ | refine Ops.max rfl rfl rfl rfl rfl ?_ | refine Ops.min rfl rfl rfl rfl rfl ?_ | refine Ops.eqB rfl rfl rfl rfl rfl rfl ?_ | refine Ops.neB rfl rfl rfl rfl rfl rfl ?_ | (apply Ops.ldB rfl rfl rfl rfl rfl; assumption; rfl)))
              refine W.endl ⟨_, _, ⟨⟨j + 1, _, _, rfl, by omega, rfl, hC8, hR'⟩, by omega⟩, (by repeat (first | exact trivial | refine And.intro rfl ?_))⟩
        · have hjl : j = (kid l i).length := by simp at hc; omega
          subst hjl
          rw [List.drop_length] at hR'
          (repeat (first | with_reducible refine W.seq ?_ | with_reducible refine Ops.nil ?_ | with_reducible refine W.region ?_ | refine Ops.pu rfl rfl rfl ?_ | refine Ops.ar rfl rfl rfl (by omega) ?_ | refine Ops.yes rfl rfl rfl ?_ | refine Ops.no rfl rfl rfl rfl rfl ?_ | refine Ops.nu rfl rfl rfl rfl ?_ | with_reducible refine W.skip ?_ | with_reducible refine W.endb ?_ | with_reducible refine W.block ?_ | refine W.exit rfl ?_ | refine Ops.len rfl rfl rfl rfl rfl ?_ | refine Ops.flp rfl rfl rfl rfl rfl ?_ | refine Ops.max rfl rfl rfl rfl rfl ?_ | refine Ops.min rfl rfl rfl rfl rfl ?_ | refine Ops.eqB rfl rfl rfl rfl rfl rfl ?_ | refine Ops.neB rfl rfl rfl rfl rfl rfl ?_ | (apply Ops.ldB rfl rfl rfl rfl rfl; assumption; rfl)))
          refine W.endl ⟨_, _, ⟨⟨i + 1, _, _, rfl, by omega, rfl, hC, hR'⟩, by omega⟩, (by repeat (first | exact trivial | refine And.intro rfl ?_))⟩
  · have hil : i = l.length := by simp at hc; omega
    subst hil
    rw [List.drop_length] at hR'
    simp only [nodesStep] at hR'
    (repeat (first | with_reducible refine W.seq ?_ | with_reducible refine Ops.nil ?_ | with_reducible refine W.region ?_ | refine Ops.pu rfl rfl rfl ?_ | refine Ops.ar rfl rfl rfl (by omega) ?_ | refine Ops.yes rfl rfl rfl ?_ | refine Ops.no rfl rfl rfl rfl rfl ?_ | refine Ops.nu rfl rfl rfl rfl ?_ | with_reducible refine W.skip ?_ | with_reducible refine W.endb ?_ | with_reducible refine W.block ?_ | refine W.exit rfl ?_ | refine Ops.len rfl rfl rfl rfl rfl ?_ | refine Ops.flp rfl rfl rfl rfl rfl ?_ | refine Ops.max rfl rfl rfl rfl rfl ?_ | refine Ops.min rfl rfl rfl rfl rfl ?_ | refine Ops.eqB rfl rfl rfl rfl rfl rfl ?_ | refine Ops.neB rfl rfl rfl rfl rfl rfl ?_ | (apply Ops.ldB rfl rfl rfl rfl rfl; assumption; rfl)))
    have hgame : gameOf l = R.bind fun dep => if 1 + cnt dep = l.length then some dep else none := by
      simp only [gameOf]
      rw [if_pos hn, hR]
    rw [← hR'] at hgame
    simp only [Option.bind_some] at hgame
    have hse := hC.seen_eq
    refine W.fret rfl ⟨hC.bel, ?_⟩
    rw [hgame]
    by_cases e : 1 + cnt dep = l.length
    · rw [if_pos e]
      have : (seen == (l.length : Int)) = true := by simp; omega
      refine ⟨g, by simp only [resV]; rw [this], hC.ge, ⟨⟨_, _, hC.blk, hT.below hC.bel, ?_⟩⟩⟩
      have := own_sl (z := (0 : Int)) hC.own
      exact this
    · rw [if_neg e]
      have : (seen == (l.length : Int)) = false := by simp; omega
      exact ⟨_, rfl, by simp only [resV]; rw [this]⟩
end Go.Proofs.Ytdiljpnfochndaa
