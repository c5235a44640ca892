/- A part of the walk: what this seat's statements share. -/
import Derived.Test.YtcmjlmnfdncajaaGreatDoorZG6
set_option linter.unusedVariables false
set_option linter.unusedSimpArgs false
set_option linter.unusedSectionVars false
namespace Go.Proofs.YtcmjlmnfdncajaaGreatDoor
open Go Go.RowKit Go.Proofs.YtcmjlmnfdncajaaGreatDoor.VW Go.Proofs.YtcmjlmnfdncajaaGreatDoor.TW
attribute [local irreducible] W Ops OrdA VW.Ord OrdX Wi OpsI OrdF
/-- The first blocks of a world. -/
def tr (w : World) (N : Nat) : World := { w with heap := w.heap.extract 0 N }
theorem tr_size {w : World} {N : Nat} (h : N ≤ w.heap.size) : (tr w N).heap.size = N := by simp [tr]; omega
theorem tr_bel {w : World} {N : Nat} (h : N ≤ w.heap.size) : Below (tr w N).heap.size (tr w N) w := by
  refine Kp.below (S := fun _ => False) ⟨rfl, rfl, rfl, by rw [tr_size h]; exact h, fun i hi _ => ?_⟩ (Nat.le_refl _) (fun _ _ e => e)
  rw [tr_size h] at hi
  have h2 : ¬ (min N w.heap.size ≤ i) := by omega
  simp [tr, Array.getElem?_extract, hi]
  intro h3
  exact absurd h3 h2
/-- A list of parts of the call's own, below which N blocks lie. -/
abbrev PO (N : Nat) (w : World) (v : Value) (l : List (Value × Nat)) : Prop := N ≤ w.heap.size ∧ OP 119 pA pB (tr w N) w v l
theorem PO.nil {N : Nat} {w : World} (h : N ≤ w.heap.size) : PO N w (.slice none 0 0) [] := ⟨h, OP.nil (tr_bel h)⟩
theorem po_kp {N : Nat} {S : Nat → Prop} {w w' : World} {v : Value} {l : List (Value × Nat)} (h : PO N w v l) (k : Kp S w w') (hS : ∀ i, v.ownBlock = some i → ¬ S i) : PO N w' v l := by
  have h1 := h.1
  have h2 := k.size
  refine ⟨by omega, tr_bel (by omega), own_kp h.2.own k hS, fun i hi => ?_⟩
  have := h.2.ge i hi
  rw [tr_size (by omega)] at this ⊢
  exact this
theorem po_ge {N : Nat} {w : World} {v : Value} {l : List (Value × Nat)} (h : PO N w v l) : ∀ i, v.ownBlock = some i → N ≤ i := fun i hi => by
  have := h.2.ge i hi
  rw [tr_size h.1] at this
  exact this
/-- What was built reads as it is. -/
theorem po_R2 {N : Nat} {w : World} {v : Value} {l : List (Value × Nat)} {S' : Nat → Prop} (h : PO N w v l) (hl : l.length ≤ 140737488355328) (hS : ∀ i, v.ownBlock = some i → ¬ S' i) : R2 S' w v l := by
  rcases h.2.own.2 with ⟨h2, h3⟩ | ⟨g, cap, cur, h2, h3, h4, h5, _⟩
  · have : l = [] := List.length_eq_zero_iff.1 h3
    subst this
    rw [h2]; exact R2.nil
  · subst h2
    refine ⟨_, _, rfl, ⟨own_cap h.2.own, hl⟩, fun hp => ⟨_, rfl, hS g rfl, fun j hj => ?_⟩⟩
    obtain ⟨g', c', e', hc⟩ := h.2.at_ hp
    simp only [Value.slice.injEq, Option.some.injEq, Addr.mk.injEq, true_and, and_true] at e'
    obtain ⟨rfl, rfl⟩ := e'
    obtain ⟨c1, c2⟩ := hc j hj
    exact ⟨c1, c2⟩
theorem OA_snoc {S : Nat → Prop} {w : World} {v : Value} {e : Od} {c : Nat} (hv : OM S w v e) : ∀ {o l}, OA S w o l → OA S w (snocO o e c) (l ++ [(v, c)])
  | .nil, l, h => by
    have : l = [] := h
    subst this
    obtain ⟨le, h1, h2⟩ := hv
    exact ⟨v, [], le, rfl, h1, h2, rfl⟩
  | .cons e' c' r, l, ⟨v', l', le, h1, h2, h3, h4⟩ => by
    subst h1
    exact ⟨v', l' ++ [(v, c)], le, rfl, h2, h3, OA_snoc hv h4⟩
theorem lastE_at : ∀ {o : Od}, o ≠ .nil → lastE o = some (nthE o (lenO o - 1))
  | .nil, h => absurd rfl h
  | .cons e c .nil, _ => rfl
  | .cons e c (.cons e' c' r'), _ => by
    rw [lastE, lastE_at (o := .cons e' c' r') (by simp)]
    simp [lenO, nthE]
theorem lenO_zero {o : Od} : lenO o = 0 ↔ o = .nil := by cases o <;> simp [lenO]
theorem rdP_inv {m : Nat} {s : List UInt8} {last : Option Od} {r : Od} {t : List UInt8} (h : rdP (m + 1) s last = some (r, t)) :
    ∃ t1 e t2 t3 c t4, pre sW s = some t1 ∧ rdE (fun s => rdP m s none) t1 = some (e, t2) ∧ pre sM t2 = some t3 ∧ rdN t3 = some (c, t4) ∧ okL last e = true ∧ 1 + szO e ≤ szO r := by
  simp only [rdP] at h
  split at h
  · simp at h
  · rename_i t1 h1
    split at h
    · simp at h
    · rename_i e t2 h2
      split at h
      · simp at h
      · rename_i t3 h3
        split at h
        · simp at h
        · rename_i c t4 h4
          split at h
          · rename_i hok
            refine ⟨t1, e, t2, t3, c, t4, h1, h2, h3, h4, hok, ?_⟩
            split at h
            · split at h
              · simp at h
              · simp only [Option.some.injEq, Prod.mk.injEq] at h
                rw [← h.1]; simp only [szO]; omega
            · simp only [Option.some.injEq, Prod.mk.injEq] at h
              rw [← h.1]; simp only [szO]; omega
          · simp at h
theorem rdP_eq {m : Nat} {s : List UInt8} {last : Option Od} {t1 e t2 t3 c t4} (h1 : pre sW s = some t1) (h2 : rdE (fun s => rdP m s none) t1 = some (e, t2)) (h3 : pre sM t2 = some t3) (h4 : rdN t3 = some (c, t4)) (h5 : okL last e = true) :
    rdP (m + 1) s last = match pre [43] t4 with
      | some t5 => (rdP m t5 (some e)).map (fun q => (.cons e c q.1, q.2))
      | none => some (.cons e c .nil, t4) := by
  simp only [rdP, h1, h2, h3, h4, h5, if_true]
  cases t4 with
  | nil => rfl
  | cons b t =>
    by_cases hb : b = 43
    · subst hb
      rw [show pre [43] (43 :: t) = some t by simp [pre]]
      simp only
      cases rdP m t (some e) <;> rfl
    · have : pre [43] (b :: t) = none := by simp [pre, Ne.symm hb]
      rw [this]
      split
      · rename_i h; simp at h; exact absurd h.1 hb
      · rfl
theorem kpb {b : Nat} {x y z : World} (h : Kp (fun i => i = b) x y) (k : Kp (fun i => i = b) y z) : Kp (fun i => i = b) x z := (h.trans k).mono (fun _ _ e => by rcases e with e | e <;> exact e)
set_option maxHeartbeats 8000000 in
theorem ordinal_c : ∀ (n : Nat) {w : World} {b k : Nat} {s : List UInt8}, s.length < n → s.length ≤ 4294967295 → k ≤ 60 → Rd w b s k →
    Calls Tryz.prog 99 #[.pointer (some ⟨b, 0, none⟩)] w (RetP
      (fun r w' => ∃ o t, rdE (fun s => rdP n s none) s = some (o, t) ∧ k + szO o ≤ 60 ∧ OM (fun i => i < w.heap.size) w' r o ∧ Rd w' b t (k + szO o) ∧ Kp (fun i => i = b) w w')
      (fun ch w' => ch = trb 4 ∧ (∀ o t, rdE (fun s => rdP n s none) s = some (o, t) → 60 < k + szO o) ∧ Kp (fun i => i = b) w w')) := by
  intro n
  induction n using Nat.strongRecOn with
  | _ n ih =>
  intro w b k s hn hs hk hB
  have hb := hB.lt
  refine calls_WP (vs := [_]) Tryz.func99 rfl (by kernel_rfl) rfl ?_
  (repeat (first | with_reducible refine W.seq ?_ | with_reducible refine Ops.nil ?_ | with_reducible refine W.region ?_ | refine z_p (kk := ?_)))
  refine Ops.call rfl rfl rfl rfl rfl (skip_c (p := [48]) (by omega) hB) (fun r w1 hR => ?_)
  obtain ⟨rfl, hB1, k01⟩ := hR
  cases hp : pre [48] s with
  | some t0 =>
    rw [hp] at hB1
    have hs0 := pre_some hp
    (repeat (first | with_reducible refine Ops.nil ?_))
    refine W.condT rfl (by first | rfl | assumption | (simp only [bnf] <;> omega) | (simp only [*, bnf]; done) | fail) ?_
    (repeat (first | with_reducible refine W.seq ?_ | with_reducible refine Ops.nil ?_ | with_reducible refine W.region ?_ | refine z_p (kk := ?_)))
    refine W.fretP rfl ⟨.nil, t0, by rw [hs0]; rfl, by simp only [szO]; omega, OM.nil, hB1, k01⟩
  | none =>
    rw [hp] at hB1
    have hrd : rdE (fun s => rdP n s none) s = rdP n s none := by
      unfold rdE
      split
      · rename_i t; simp [pre] at hp
      · rfl
    rw [hrd]
    (repeat (first | with_reducible refine Ops.nil ?_))
    refine W.condF rfl (by first | rfl | assumption | (simp only [bnf] <;> omega) | (simp only [*, bnf]; done) | fail) ?_
    (repeat (first | with_reducible refine W.seq ?_ | with_reducible refine Ops.nil ?_ | with_reducible refine W.region ?_ | refine z_p (kk := ?_) | with_reducible refine W.skip ?_ | with_reducible refine W.block ?_))
    have hw01 := k01.size
    refine W.loop (fun m ρ w2 => ∃ (acc : Od) (l : List (Value × Nat)) (ov : Value) (s1 : List UInt8) (m1 : Nat) (more : Bool), m = s1.length + (if more = true then 1 else 0) ∧ ρ = [(0, .pointer (some ⟨b, 0, none⟩)), (3, ov), (4, .bool more)] ∧
        PO w.heap.size w2 ov l ∧ OA (fun i => i < w.heap.size ∨ ov.ownBlock = some i) w2 acc l ∧ Rd w2 b s1 (k + szO acc) ∧ Kp (fun i => i = b) w w2 ∧ s1.length ≤ s.length ∧ k + szO acc ≤ 60 ∧
        (more = true → s1.length < m1 ∧ m1 ≤ n ∧ rdP n s none = (rdP m1 s1 (lastE acc)).map (fun q => (appO acc q.1, q.2))) ∧ (more = false → rdP n s none = some (acc, s1)))
      ⟨_, _, ⟨.nil, [], _, s, n, true, rfl, rfl, PO.nil (by omega), rfl, hB1, k01, Nat.le_refl _, by simp only [szO]; omega, fun _ => ⟨hn, Nat.le_refl _, by show rdP n s none = (rdP n s none).map _; cases rdP n s none <;> rfl⟩, fun h => by cases h⟩, (by repeat (first | exact trivial | refine And.intro rfl ?_))⟩ ?_
    clear hB1 k01
    rintro m ρ w2 ⟨acc, l, ov, s1, m1, more, rfl, rfl, hP, hA, hB2, k02, hsl, hka, hmore, hdone⟩
    (repeat (first | with_reducible refine W.seq ?_ | with_reducible refine Ops.nil ?_ | with_reducible refine W.region ?_ | refine z_p (kk := ?_)))
    cases more with
    | false =>
      have hres := hdone rfl
      refine W.condF rfl (by first | rfl | assumption | (simp only [bnf] <;> omega) | (simp only [*, bnf]; done) | fail) ?_
      (repeat (first | with_reducible refine W.seq ?_ | with_reducible refine Ops.nil ?_ | with_reducible refine W.region ?_ | refine z_p (kk := ?_) | refine W.exit rfl ?_))
      have hlen := hA.len
      have hlz := len_le_sz acc
      exact W.fretP rfl ⟨acc, s1, hres, hka, ⟨l, po_R2 hP (by omega) (fun i hi => by have := po_ge hP i hi; omega), hA.more (fun i h => .inl (.inl h))⟩, hB2, k02⟩
    | true =>
      obtain ⟨hm1, hm2, hres⟩ := hmore rfl
      have hlen := hA.len
      have hlz := len_le_sz acc
      obtain ⟨m', rfl⟩ : ∃ m', m1 = m' + 1 := ⟨m1 - 1, by omega⟩
      have hpan : ∀ q, (∀ r t, rdP (m' + 1) s1 (lastE acc) = some (r, t) → q ≤ szO r) → 60 < k + szO acc + q → ∀ o t, rdP n s none = some (o, t) → 60 < k + szO o := fun q h1 h2 o t h3 => by
        rw [hres] at h3
        cases hx : rdP (m' + 1) s1 (lastE acc) with
        | none => rw [hx] at h3; simp at h3
        | some u =>
          rw [hx] at h3
          simp only [Option.map_some, Option.some.injEq, Prod.mk.injEq] at h3
          have := h1 u.1 u.2 hx
          rw [← h3.1, szO_app]; omega
      have hnone : (∀ r t, ¬ rdP (m' + 1) s1 (lastE acc) = some (r, t)) → ∀ o t, rdP n s none = some (o, t) → 60 < k + szO o := fun h1 o t h3 => by
        rw [hres] at h3
        cases hx : rdP (m' + 1) s1 (lastE acc) with
        | none => rw [hx] at h3; simp at h3
        | some u => exact absurd hx (h1 u.1 u.2)
      have hown : ∀ i, ov.ownBlock = some i → ¬ i = b := fun i hi e => by have := po_ge hP i hi; omega
      have hbS : ∀ i, i = b → (i < w.heap.size ∨ ov.ownBlock = some i) := fun i e => .inl (by omega)
      have hw2s := hP.1
      refine W.condT rfl (by first | rfl | assumption | (simp only [bnf] <;> omega) | (simp only [*, bnf]; done) | fail) ?_
      (repeat (first | with_reducible refine W.seq ?_ | with_reducible refine W.region ?_ | refine z_p (kk := ?_) | refine z_a (kk := ?_) | with_reducible refine W.skip ?_ | with_reducible refine W.block ?_ | refine z_f (kk := ?_) | refine z_d (kk := ?_)))
      refine Ops.st rfl rfl rfl rfl rfl rfl rfl hB2 (by simp) (fun w3 hu3 => ?_)
      have hB3 : Rd w3 b s1 (k + szO acc + 1) := by
        have := hu3.blk
        rw [show (((k + szO acc : Nat) : Int) + 1) = ((k + szO acc + 1 : Nat) : Int) by omega] at this
        exact this
      have k03 := kpb k02 hu3.kp
      have hP3 := po_kp hP hu3.kp hown
      have hA3 := hA.kp hu3.kp hbS
      clear hP hA hB2
      (repeat (first | with_reducible refine W.seq ?_ | with_reducible refine Ops.nil ?_ | with_reducible refine W.region ?_ | refine z_p (kk := ?_) | refine z_f (kk := ?_) | refine z_d (kk := ?_)))
      refine Ops.callP rfl rfl rfl rfl rfl (demand_c _ _ _) (fun r w3' hR => ?_) (fun ch w3' hR => ?_)
      rotate_left
      · obtain ⟨hb1, rfl, rfl⟩ := hR
        simp at hb1
        exact ⟨rfl, hpan 1 (fun r t h => (rdP_spec h).2.1) (by omega), k03⟩
      obtain ⟨hk1, rfl⟩ := hR
      simp at hk1
      (repeat (first | with_reducible refine W.seq ?_ | with_reducible refine Ops.nil ?_ | with_reducible refine W.region ?_ | refine z_p (kk := ?_)))
      refine Ops.callP rfl rfl rfl rfl rfl (want_c (p := [119, 94, 40]) (by omega) hB3) (fun r w4 hR => ?_) (fun ch w4 hR => ?_)
      rotate_left
      · obtain ⟨rfl, hp1, k34⟩ := hR
        exact ⟨rfl, hnone (fun r t h => by
          obtain ⟨t1, e, t2, t3, c, t4, q1, _⟩ := rdP_inv h
          rw [show pre sW s1 = none from hp1] at q1; simp at q1), kpb k03 k34⟩
      obtain ⟨t1, hp1, hB4, k34⟩ := hR
      have hl1 := pre_len hp1
      have k04 := kpb k03 k34
      have hP4 := po_kp hP3 k34 hown
      have hA4 := hA3.kp k34 hbS
      clear hP3 hA3 hB3 k34
      simp only [List.length_cons, List.length_nil] at hl1
      (repeat (first | with_reducible refine W.seq ?_ | with_reducible refine Ops.nil ?_ | with_reducible refine W.region ?_ | refine z_p (kk := ?_)))
      refine Ops.callP rfl rfl rfl rfl rfl (ih m' (by omega) (s := t1) (k := k + szO acc + 1) (by omega) (by omega) (by omega) hB4) (fun ev w5 hR => ?_) (fun ch w5 hR => ?_)
      rotate_left
      · obtain ⟨rfl, h1, k45⟩ := hR
        refine ⟨rfl, fun o t h => ?_, kpb k04 k45⟩
        cases hx : rdE (fun s => rdP m' s none) t1 with
        | none => exact hnone (fun r t h => by
            obtain ⟨t1', e, t2, t3, c, t4, q1, q2, _⟩ := rdP_inv h
            rw [show pre sW s1 = some t1 from hp1] at q1
            simp only [Option.some.injEq] at q1
            subst q1
            rw [hx] at q2; simp at q2) o t h
        | some u =>
          have := h1 u.1 u.2 hx
          refine hpan (1 + szO u.1) (fun r t h => ?_) (by omega) o t h
          obtain ⟨t1', e, t2, t3, c, t4, q1, q2, _, _, _, q3⟩ := rdP_inv h
          rw [show pre sW s1 = some t1 from hp1] at q1
          simp only [Option.some.injEq] at q1
          subst q1
          rw [hx] at q2
          simp only [Option.some.injEq] at q2
          rw [q2]; exact q3
      obtain ⟨e, t2, hE, hke, hM5, hB5, k45⟩ := hR
      have hl2 := (rdE_spec hE).1
      have k05 := kpb k04 k45
      have hw45 := k45.size
      have hP5 := po_kp hP4 k45 hown
      have hA5 := hA4.kp k45 hbS
      have hlt4 : ∀ i, ov.ownBlock = some i → i < w4.heap.size := fun i hi => (hP4.2.own.lt i hi).2
      have hM5' : OM (fun i => i < w.heap.size ∨ ov.ownBlock = some i) w5 ev e := hM5.more (fun i h => .inl (by rcases h with h | h; have := hP4.1; omega; exact hlt4 i h))
      clear hP4 hA4 hB4 k45 hM5 hlt4
      (repeat (first | with_reducible refine W.seq ?_ | with_reducible refine Ops.nil ?_ | with_reducible refine W.region ?_ | refine z_p (kk := ?_)))
      refine Ops.callP rfl rfl rfl rfl rfl (want_c (p := [41, 42]) (by omega) hB5) (fun r w6 hR => ?_) (fun ch w6 hR => ?_)
      rotate_left
      · obtain ⟨rfl, hp2, k56⟩ := hR
        refine ⟨rfl, hnone (fun r t h => ?_), kpb k05 k56⟩
        obtain ⟨t1', e', t2', t3, c, t4, q1, q2, q3, _⟩ := rdP_inv h
        rw [show pre sW s1 = some t1 from hp1] at q1
        simp only [Option.some.injEq] at q1
        subst q1
        rw [hE] at q2
        simp only [Option.some.injEq, Prod.mk.injEq] at q2
        obtain ⟨rfl, rfl⟩ := q2
        rw [show pre sM t2 = none from hp2] at q3; simp at q3
      obtain ⟨t3, hp2, hB6, k56⟩ := hR
      have hl3 := pre_len hp2
      simp only [List.length_cons, List.length_nil] at hl3
      have k06 := kpb k05 k56
      have hP6 := po_kp hP5 k56 hown
      have hA6 := hA5.kp k56 hbS
      have hM6 := hM5'.kp k56 hbS
      clear hP5 hA5 hB5 hM5' k56
      (repeat (first | with_reducible refine W.seq ?_ | with_reducible refine Ops.nil ?_ | with_reducible refine W.region ?_ | refine z_p (kk := ?_)))
      refine Ops.callP rfl rfl rfl rfl rfl (number_c (by omega) hB6) (fun cv w7 hR => ?_) (fun ch w7 hR => ?_)
      rotate_left
      · obtain ⟨rfl, hn3, k67⟩ := hR
        refine ⟨rfl, hnone (fun r t h => ?_), kpb k06 k67⟩
        obtain ⟨t1', e', t2', t3', c, t4, q1, q2, q3, q4, _⟩ := rdP_inv h
        rw [show pre sW s1 = some t1 from hp1] at q1
        simp only [Option.some.injEq] at q1
        subst q1
        rw [hE] at q2
        simp only [Option.some.injEq, Prod.mk.injEq] at q2
        obtain ⟨rfl, rfl⟩ := q2
        rw [show pre sM t2 = some t3 from hp2] at q3
        simp only [Option.some.injEq] at q3
        subst q3
        rw [hn3] at q4; simp at q4
      obtain ⟨c, t4, hn3, rfl, hB7, k67⟩ := hR
      have hl4 := (rdN_len hn3).1
      have k07 := kpb k06 k67
      have hP7 := po_kp hP6 k67 hown
      have hA7 := hA6.kp k67 hbS
      have hM7 := hM6.kp k67 hbS
      clear hP6 hA6 hB6 hM6 k67
      have hnext := fun hok => rdP_eq (m := m') (s := s1) (last := lastE acc) (show pre sW s1 = some t1 from hp1) hE (show pre sM t2 = some t3 from hp2) hn3 hok
      have hbad : okL (lastE acc) e = false → ∀ o t, rdP n s none = some (o, t) → 60 < k + szO o := fun hb => hnone (fun r t h => by
        obtain ⟨t1', e', t2', t3', c', t4', q1, q2, q3, q4, q5, _⟩ := rdP_inv h
        rw [show pre sW s1 = some t1 from hp1] at q1
        simp only [Option.some.injEq] at q1
        subst q1
        rw [hE] at q2
        simp only [Option.some.injEq, Prod.mk.injEq] at q2
        obtain ⟨rfl, rfl⟩ := q2
        rw [hb] at q5; simp at q5)
      have hee := hM7.one
      obtain ⟨Ao, co, rfl⟩ := hP7.2.sh
      have hR7 : R2 (fun i => i < w.heap.size) w7 (.slice Ao l.length co) l := po_R2 hP7 (by omega) (fun i hi => by have := po_ge hP7 i hi; omega)
      have hw7s := hP7.1
      have hsz4 : szO (snocO acc e c) = szO acc + (1 + szO e) := by unfold snocO; rw [szO_app]; simp only [szO]; omega
      refine z_p (kk := ?_)
      refine Ops.nil ?_
      refine W.seq ?_
      refine W.region ?_
      refine Ops.cut (fun ρ w8 => okL (lastE acc) e = true ∧ Below w7.heap.size w7 w8 ∧ ρ = [(0, .pointer (some ⟨b, 0, none⟩)), (3, .slice Ao l.length co), (5, ev), (6, .int .i64 (c : Nat))]) ?_ ?_
      · by_cases hz : l.length = 0
        · have hacc : acc = .nil := lenO_zero.1 (by omega)
          have hok : okL (lastE acc) e = true := by rw [hacc]; rfl
          (repeat (first | refine z_p (kk := ?_) | refine z_n (kk := ?_) | refine z_l (kk := ?_) | refine z_g (kk := ?_)))
          refine Ops.callP rfl rfl rfl rfl rfl (demand_c _ _ _) (fun r w8 hR => ?_) (fun ch w8 hR => ?_)
          rotate_left
          · exact absurd hR.1 (by simp)
          obtain ⟨-, rfl⟩ := hR
          (repeat (first | with_reducible refine Ops.nil ?_))
          exact W.endl ⟨_, ⟨hok, Below.refl _ _, rfl⟩, (by repeat (first | exact trivial | refine And.intro rfl ?_))⟩
        · have hacc : acc ≠ .nil := fun h => hz (by rw [hlen, h]; rfl)
          have hla := lastE_at hacc
          obtain ⟨a2, aM⟩ := hA7.at_ (i := lenO acc - 1) (by omega)
          (repeat (first | refine z_p (kk := ?_) | refine z_a (kk := ?_) | refine z_y (kk := ?_) | refine z_l (kk := ?_) | refine z_h (kk := ?_)))
          rw [show ((l.length : Nat) : Int) - 1 = ((lenO acc - 1 : Nat) : Int) by omega]
          (repeat (first | refine z_y (kk := ?_) | refine z_R0 (kk := fun _ _ => ?_)))
          refine Ops.call rfl rfl rfl rfl rfl (compare_c _ (Nat.le_refl _) hM7 aM) (fun r w8 hR => ?_)
          obtain ⟨rfl, hb78⟩ := hR
          (repeat (first | refine z_p (kk := ?_) | refine z_y (kk := ?_)))
          refine Ops.callP rfl rfl rfl rfl rfl (demand_c _ _ _) (fun r w9 hR => ?_) (fun ch w9 hR => ?_)
          rotate_left
          · obtain ⟨h1, rfl, rfl⟩ := hR
            exact ⟨rfl, hbad (by rw [hla]; exact h1), (k07.trans (Kp.of_below (S := fun _ => False) hb78)).mono (fun _ _ e => by rcases e with e | e; exact e; exact e.elim)⟩
          obtain ⟨h1, rfl⟩ := hR
          (repeat (first | with_reducible refine Ops.nil ?_))
          exact W.endl ⟨_, ⟨by rw [hla]; exact h1, hb78, rfl⟩, (by repeat (first | exact trivial | refine And.intro rfl ?_))⟩
      · rintro ρ w8 ⟨hok, hb78, rfl⟩
        have hres2 := hnext hok
        have kz : Kp (fun _ => False) w7 w8 := Kp.of_below (S := fun _ => False) hb78
        have hP8 := po_kp hP7 kz (fun _ _ e => e)
        have hA8 := hA7.kp kz (fun _ e => e.elim)
        have hM8 := hM7.kp kz (fun _ e => e.elim)
        have hB8 : Rd w8 b t4 (k + szO acc + 1 + szO e) := hB7.kp kz (fun e => e)
        have k08 : Kp (fun i => i = b) w w8 := (k07.trans kz).mono (fun _ _ e => by rcases e with e | e; exact e; exact e.elim)
        clear hP7 hA7 hM7 hB7 kz hR7
        (repeat (first | with_reducible refine W.region ?_ | refine z_p (kk := ?_)))
        refine Ops.bld2 rfl rfl rfl rfl rfl rfl rfl hee rfl ?_
        refine Ops.pushP (fa := pA) (fb := pB) (z := (ev, c)) rfl rfl rfl rfl rfl rfl rfl rfl rfl rfl rfl (fun _ => rfl) hee rfl hP8.2 (by omega) (fun lv' p w9 hO9 k9 hn9 => ?_)
        have hw8s := hP8.1
        have hw9 := k9.size
        have hP9 : PO w.heap.size w9 lv' (l ++ [(ev, c)]) := ⟨by omega, tr_bel (by omega), hO9.own, fun i hi => by
          have := hO9.ge i hi
          rw [tr_size (by omega)] at this ⊢
          exact this⟩
        have hmo : ∀ i, ((i < w.heap.size ∨ (Value.slice Ao l.length co).ownBlock = some i) ∨ lv'.ownBlock = some i) → (i < w.heap.size ∨ (Value.slice Ao l.length co).ownBlock = some i) ∨ w8.heap.size ≤ i := fun i h => by
          rcases h with h | h
          · exact .inl h
          · rcases hn9 i h with q | q
            · exact .inl (.inr q)
            · exact .inr q
        have hA9 := ((hA8.more hmo).kp k9 (fun i e => .inl (.inr e))).more (S' := fun i => i < w.heap.size ∨ lv'.ownBlock = some i) (fun i h => .inl (by rcases h with h | h; exact .inl (.inl h); exact .inr h))
        have hM9 := ((hM8.more hmo).kp k9 (fun i e => .inl (.inr e))).more (S' := fun i => i < w.heap.size ∨ lv'.ownBlock = some i) (fun i h => .inl (by rcases h with h | h; exact .inl (.inl h); exact .inr h))
        have hAs := OA_snoc (c := c) hM9 hA9
        have hB9 : Rd w9 b t4 (k + szO (snocO acc e c)) := by
          rw [show k + szO (snocO acc e c) = k + szO acc + 1 + szO e by omega]
          exact hB8.kp k9 (fun q => hown b q rfl)
        have k09 : Kp (fun i => i = b) w w9 := (k08.trans k9).mono (fun i hi q => by
          rcases q with q | q
          · exact q
          · have := po_ge hP8 i q; omega)
        have hown9 : ∀ i, lv'.ownBlock = some i → ¬ i = b := fun i hi q => by have := po_ge hP9 i hi; omega
        clear hP8 hA8 hM8 hB8 hA9 hM9 hO9 hmo
        (repeat (first | with_reducible refine Ops.nil ?_ | with_reducible refine W.region ?_ | refine z_p (kk := ?_) | with_reducible refine W.endb ?_))
        refine Ops.call rfl rfl rfl rfl rfl (skip_c (p := [43]) (by omega) hB9) (fun r w10 hR => ?_)
        obtain ⟨rfl, hB10, k910⟩ := hR
        have hP10 := po_kp hP9 k910 hown9
        have hA10 := hAs.kp k910 (fun i q => .inl (by omega))
        have k010 := kpb k09 k910
        cases hpl : pre [43] t4 with
        | none =>
          rw [hpl] at hB10 hres2
          (repeat (first | with_reducible refine Ops.nil ?_ | refine z_p (kk := ?_)))
          refine W.endl ⟨_, _, ⟨⟨snocO acc e c, l ++ [(ev, c)], lv', t4, 0, false, rfl, rfl, hP10, hA10, hB10, k010, by omega, by omega, fun h => (by cases h), fun _ => ?_⟩, ?_⟩, (by repeat (first | exact trivial | refine And.intro rfl ?_))⟩
          · rw [hres, hres2]; rfl
          · simp only [if_true]
            rw [if_neg (by simp)]
            omega
        | some t5 =>
          rw [hpl] at hB10 hres2
          have hl5 := pre_len hpl
          simp only [List.length_cons, List.length_nil] at hl5
          (repeat (first | with_reducible refine Ops.nil ?_ | refine z_p (kk := ?_)))
          refine W.endl ⟨_, _, ⟨⟨snocO acc e c, l ++ [(ev, c)], lv', t5, m', true, rfl, rfl, hP10, hA10, hB10, k010, by omega, by omega, fun _ => ⟨by omega, by omega, ?_⟩, fun h => (by cases h)⟩, ?_⟩, (by repeat (first | exact trivial | refine And.intro rfl ?_))⟩
          · replace hres2 : rdP (m' + 1) s1 (lastE acc) = (rdP m' t5 (some e)).map (fun q => (.cons e c q.1, q.2)) := hres2
            rw [hres, hres2, lastE_snoc]
            cases rdP m' t5 (some e) with
            | none => rfl
            | some u => simp only [Option.map_some, appO_snoc]
          · simp only [if_true]
            omega
end Go.Proofs.YtcmjlmnfdncajaaGreatDoor
namespace Go.Proofs.YtcmjlmnfdncajaaGreatDoor
open Go Go.RowKit Go.Proofs.YtcmjlmnfdncajaaGreatDoor.VW Go.Proofs.YtcmjlmnfdncajaaGreatDoor.TW
attribute [local irreducible] W Ops OrdA VW.Ord OrdX Wi OpsI OrdF
theorem readOrdinal_c {w : World} {s : List UInt8} (hs : s.length ≤ 4294967295) : Calls Tryz.prog 61 #[S s] w (RetP
    (fun r w' => ∃ o, rdA s = some o ∧ OM (fun i => i < w.heap.size) w' r o ∧ Below w.heap.size w w') (fun ch w' => ch = trb 4 ∧ rdA s = none ∧ Below w.heap.size w w')) := by
  refine calls_WP (vs := [_]) Tryz.func61 rfl (by kernel_rfl) rfl ?_
  (repeat (first | with_reducible refine W.seq ?_ | with_reducible refine Ops.nil ?_ | with_reducible refine W.region ?_ | refine z_p (kk := ?_)))
  refine z_ev (EV.bldH rfl rfl rfl rfl rfl) (kk := ?_)
  refine Ops.box rfl rfl rfl rfl (fun w1 b hM1 => ?_)
  have hB1 : Rd w1 b s 0 := hM1.at_
  have e1 := hM1.r_eq
  have s1 := hM1.size
  (repeat (first | with_reducible refine W.seq ?_ | with_reducible refine Ops.nil ?_ | with_reducible refine W.region ?_ | refine z_p (kk := ?_)))
  refine Ops.callP rfl rfl rfl rfl rfl (ordinal_c (s.length + 1) (by omega) hs (by omega) hB1) (fun r w2 hR => ?_) (fun ch w2 hR => ?_)
  rotate_left
  · obtain ⟨rfl, h1, k12⟩ := hR
    refine ⟨rfl, ?_, Below.put (Mk.bel hM1) k12 (fun i e => by omega)⟩
    unfold rdA
    rw [rdO_eq]
    split
    · rename_i o h2
      have := h1 _ _ h2
      rw [if_neg (by omega)]
    · rfl
  obtain ⟨o, t, h1, h2, hO, hB2, k12⟩ := hR
  have hb02 : Below w.heap.size w w2 := Below.put (Mk.bel hM1) k12 (fun i e => by omega)
  (repeat (first | with_reducible refine W.seq ?_ | with_reducible refine Ops.nil ?_ | with_reducible refine W.region ?_ | refine z_p (kk := ?_) | refine z_f (kk := ?_) | refine z_d (kk := ?_) | refine z_ev (EV.seq rfl rfl rfl rfl) (kk := ?_)))
  refine Ops.callP rfl rfl rfl rfl rfl (demand_c _ _ _) (fun r2 w3 hR => ?_) (fun ch w3 hR => ?_)
  rotate_left
  · obtain ⟨h3, rfl, rfl⟩ := hR
    refine ⟨rfl, ?_, hb02⟩
    unfold rdA
    rw [rdO_eq, h1]
    split
    · rename_i o2 h4
      simp only [Option.some.injEq, Prod.mk.injEq] at h4
      exact absurd h4.2 (by simpa using h3)
    · rfl
  obtain ⟨h3, rfl⟩ := hR
  have ht : t = [] := by simpa using h3
  subst ht
  (repeat (first | with_reducible refine W.seq ?_ | with_reducible refine Ops.nil ?_ | with_reducible refine W.region ?_ | refine z_p (kk := ?_)))
  refine W.fretP rfl ⟨o, ?_, hO.more (fun i h => .inl (by omega)), hb02⟩
  unfold rdA
  rw [rdO_eq, h1]
  simp only
  rw [if_pos (by omega)]
/-- What a deferred closure finds: the panic that it takes, or none. -/
theorem guard1_c {w : World} {b : Nat} {z : Int} {e : Option Int} (hB : Blk w b #[.int .i64 z] 25) :
    CallsDIn Fence.wide 0 Tryz.prog 98 #[.pointer (some ⟨b, 0, none⟩)] (match e with | some e => .panicking (trb e) | none => .returning) w (fun en u' w' => en = .returned (.tuple #[]) ∧ settle u' = .returning ∧ Blk w' b #[.int .i64 (e.getD z)] 25 ∧ Kp (fun i => i = b) w w') := by
  refine callsDIn_of_wpSIn Tryz.func98 rfl trivial (fun c₀ cs hu => ?_)
  have fin : ∀ (u : FrameMode) (cs' : List Frame), cs' = { c₀ with mode := u } :: cs → settle u = .returning → ∀ ex a' ρ' w', Rep Tryz.f98.ntmps a' ρ' → LiftD [] (fun ey _ w' => ey = .normal ∧ Blk w' b #[.int .i64 (e.getD z)] 25 ∧ Kp (fun i => i = b) w w') ex a'.defers ρ' w' →
      bodyPostS Tryz.prog Tryz.f98 c₀ cs (fun en u' w' => en = .returned (.tuple #[]) ∧ settle u' = .returning ∧ Blk w' b #[.int .i64 (e.getD z)] 25 ∧ Kp (fun i => i = b) w w') ex a' cs' w' := fun u cs' hcs hs ex a' ρ' w' hr hl => by
    cases ex with
    | normal =>
      obtain ⟨hd, _, h1, h2⟩ := hl
      exact ⟨hd, u, hcs, .tuple #[], run_results (ρ := ρ') (vs := []) hr rfl, rfl, hs, h1, h2⟩
    | ret => obtain ⟨_, _, h, _⟩ := hl; cases h
    | _ => obtain ⟨_, h, _⟩ := hl; cases h
  cases e with
  | none =>
    refine wpSIn_seq (wpSIn_region ?_)
    simp [wpOpsSIn, go_sem, recoverD, hu, Exit.thenS]
    refine wpSIn_of_wpIn rfl (wpIn_wide.2 (wp_W (n := Tryz.f98.ntmps) (ρ := [(4, .nilIface), (0, .pointer (some ⟨b, 0, none⟩))]) (ds := []) (Φ := fun ey _ w' => ey = .normal ∧ Blk w' b #[.int .i64 z] 25 ∧ Kp (fun i => i = b) w w') ?_ (by kernel_rfl) ⟨rfl, ?_⟩ rfl ?_))
    · (repeat (first | with_reducible refine W.seq ?_ | with_reducible refine W.region ?_ | with_reducible refine W.block ?_))
      refine z_ev (EV.ifN rfl rfl rfl) (kk := ?_)
      (repeat (first | with_reducible refine Ops.nil ?_))
      refine W.condT rfl (by first | rfl | assumption | (simp only [bnf] <;> omega) | (simp only [*, bnf]; done) | fail) ?_
      (repeat (first | with_reducible refine Ops.nil ?_ | with_reducible refine W.region ?_ | refine z_p (kk := ?_) | with_reducible refine W.endb ?_))
      exact W.fin ⟨rfl, hB, Kp.refl _ _⟩
    · intro t v h
      simp only [VW.look] at h
      rcases t with _ | _ | _ | _ | _ | t <;> simp [Nat.beq] at h <;> first | (subst h; rfl) | skip
    · intro ex a' ρ' w' hr hl
      exact fin .returning _ (by cases c₀; simp only at hu; subst hu; rfl) rfl ex a' ρ' w' hr hl
  | some e =>
    refine wpSIn_seq (wpSIn_region ?_)
    simp [wpOpsSIn, go_sem, recoverD, hu, Exit.thenS, trb]
    refine wpSIn_of_wpIn rfl (wpIn_wide.2 (wp_W (n := Tryz.f98.ntmps) (ρ := [(4, .iface 112 (.agg #[.int .i64 e])), (0, .pointer (some ⟨b, 0, none⟩))]) (ds := []) (Φ := fun ey _ w' => ey = .normal ∧ Blk w' b #[.int .i64 e] 25 ∧ Kp (fun i => i = b) w w') ?_ (by kernel_rfl) ⟨rfl, ?_⟩ rfl ?_))
    · have hb := hB.lt
      (repeat (first | with_reducible refine W.seq ?_ | with_reducible refine W.region ?_ | with_reducible refine W.block ?_))
      refine z_ev (EV.ifY rfl rfl rfl rfl) (kk := ?_)
      (repeat (first | with_reducible refine Ops.nil ?_))
      refine W.condF rfl (by first | rfl | assumption | (simp only [bnf] <;> omega) | (simp only [*, bnf]; done) | fail) ?_
      (repeat (first | with_reducible refine W.seq ?_ | with_reducible refine W.region ?_))
      refine z_ev (EV.asY rfl rfl rfl rfl) (kk := ?_)
      (repeat (first | with_reducible refine Ops.nil ?_ | refine z_p (kk := ?_)))
      refine W.condT rfl (by first | rfl | assumption | (simp only [bnf] <;> omega) | (simp only [*, bnf]; done) | fail) ?_
      (repeat (first | with_reducible refine W.seq ?_ | with_reducible refine W.region ?_))
      refine Ops.alloc rfl rfl rfl rfl (fun w1 b1 hM1 => ?_)
      refine Ops.stN (vs := [.int .i64 e]) (cs := [.int .i64 0]) rfl rfl rfl rfl rfl rfl (by intro v hv; simp at hv; subst hv; rfl) rfl hM1.at_ (fun w2 hu2 => ?_)
      have B2 : Blk w2 b1 #[.int .i64 e] 112 := hu2.blk
      have e1 := hM1.r_eq
      have hB1 := (hB.kp hM1.kp (fun q => q)).kp hu2.kp (fun q => by omega)
      have k2 : Kp (fun i => i = b) w w2 := ((hM1.kp.trans hu2.kp)).mono (fun i hi q => by rcases q with q | q; exact q.elim; omega)
      (repeat (first | with_reducible refine Ops.nil ?_ | with_reducible refine W.region ?_ | refine z_f (kk := ?_) | refine z_d (kk := ?_)))
      refine Ops.st rfl rfl rfl rfl rfl rfl rfl hB1 (by simp) (fun w3 hu3 => ?_)
      (repeat (first | with_reducible refine Ops.nil ?_ | with_reducible refine W.endb ?_))
      exact W.fin ⟨rfl, by simpa using hu3.blk, kpb k2 hu3.kp⟩
    · intro t v h
      simp only [VW.look] at h
      rcases t with _ | _ | _ | _ | _ | t <;> simp [Nat.beq] at h <;> first | (subst h; rfl) | skip
    · intro ex a' ρ' w' hr hl
      exact fin (.panicking [{ v := .iface 112 (.agg #[.int .i64 e]), recovered := true }]) _ rfl rfl ex a' ρ' w' hr hl
end Go.Proofs.YtcmjlmnfdncajaaGreatDoor
namespace Go.Proofs.YtcmjlmnfdncajaaGreatDoor
open Go Go.RowKit Go.Proofs.YtcmjlmnfdncajaaGreatDoor.VW Go.Proofs.YtcmjlmnfdncajaaGreatDoor.TW
attribute [local irreducible] W Ops OrdA VW.Ord OrdX Wi OpsI OrdF
theorem callV_f {ρ : E} {c : Call} {g : Operand} {f : Nat} {caps : List Value} (hc : c.callee = .value g) (hg : ev ρ g = some (.func (.func f) #[] caps.toArray)) (ha : evs ρ c.args.toList = some []) : callV ρ c = some (f, caps) := by
  simp [callV, hc, hg, ha, app3_eq]
theorem callsDIn_mono {P : Program} {f n : Nat} {args : Array Value} {u : FrameMode} {w : World} {R R' : Ending → FrameMode → World → Prop} (h : CallsDIn Fence.wide n P f args u w R) (hr : ∀ e u w, R e u w → R' e u w) : CallsDIn Fence.wide n P f args u w R' :=
  ⟨h.1, fun c cs h1 h2 => by
    obtain ⟨e, u', w', fr, q1, q2⟩ := h.2 c cs h1 h2
    exact ⟨e, u', w', fr, hr _ _ _ q1, q2⟩⟩
/-- A function is called; the error that it reports by a panic, or none. -/
theorem guard_c {w : World} {F : Nat} {caps : List Value} {T : Nat → Prop} {N : World → World → Prop} {E' : World → World → Int → Prop} (hF : memB (Fns.L Tryz.prog) F = true) (hT : ∀ i, T i → i < w.heap.size)
    (hf : ∀ w1, w.heap.size < w1.heap.size → Below w.heap.size w w1 → Calls Tryz.prog F caps.toArray w1 (RetP (fun _ w' => Kp T w1 w' ∧ N w1 w') (fun ch w' => ∃ e, ch = trb e ∧ Kp T w1 w' ∧ E' w1 w' e))) :
    Calls Tryz.prog 59 #[.func (.func F) #[] caps.toArray] w (Ret fun r w' => ∃ w1 w2, w.heap.size < w1.heap.size ∧ Below w.heap.size w w1 ∧ Kp T w1 w2 ∧ Kp (fun i => i = w.heap.size) w2 w' ∧ ((r = .int .i64 0 ∧ N w1 w2) ∨ ∃ e, r = .int .i64 e ∧ E' w1 w2 e)) := by
  refine callsIn_wide.1 (callsIn_of_wp_marks (F := Fence.wide) (n := 0) Tryz.func59 rfl trivial (wpIn_wide.2 ?_))
  have hrep : Rep Tryz.f59.ntmps { tmps := [Value.func (.func F) #[] caps.toArray].toArray ++ Array.replicate (Tryz.f59.ntmps - [Value.func (.func F) #[] caps.toArray].toArray.size) undef, defers := [] } (argE [Value.func (.func F) #[] caps.toArray] 0) := rep_arg (Nat.le_of_ble_eq_true rfl)
  refine wp_seq (wp_W (n := Tryz.f59.ntmps) (ρ := argE [Value.func (.func F) #[] caps.toArray] 0) (ds := []) (Φ := fun ey ρ w1 => ey = .normal ∧ ∃ b, Mk w w1 b (.cells #[.int .i64 0] 25) ∧ Sub [(0, .func (.func F) #[] caps.toArray), (2, .pointer (some ⟨b, 0, none⟩))] ρ) ?_ (by kernel_rfl) hrep rfl ?_)
  · (repeat (first | with_reducible refine W.region ?_))
    refine Ops.alloc rfl rfl rfl rfl (fun w1 b hM1 => ?_)
    (repeat (first | with_reducible refine Ops.nil ?_))
    exact W.fin ⟨rfl, b, hM1, (by repeat (first | exact trivial | refine And.intro rfl ?_))⟩
  intro ex a1 ρ1 w1 hr1 hl1
  cases ex with
  | normal =>
    obtain ⟨hd1, _, b, hM1, hs1⟩ := hl1
    have hr1' := hr1.sub hs1
    clear hr1 hs1
    have e1 := hM1.r_eq
    have s1 := hM1.size
    show Code.wp Tryz.prog _ _ a1 w1
    refine wp_seq (wp_region_lit (l := [_, _]) (wpList_plain rfl fun K hK => ?_))
    have hv2 : a1.eval (.tmp 2) = .pointer (some ⟨b, 0, none⟩) := hr1'.slot 2 _ rfl
    have q1 : ∀ {aft g p t}, (execOp a1.eval { dst := some 3, op := Op.makeFunc (Fn.func 98) #[] #[Operand.tmp 2], type := t, pos := p, after := aft, guard := g }).run Tryz.prog w1 = .ok (.value (.func (.func 98) #[] #[.pointer (some ⟨b, 0, none⟩)])) w1 := by
      intro aft g p t
      simp [execOp, hv2]
      rfl
    unfold Oper.wp
    rw [q1]
    refine hK _ _ ?_
    have hr2 := hr1'.put (d := some 3) rfl (.func (.func 98) #[] #[.pointer (some ⟨b, 0, none⟩)])
    refine wpList_plain rfl fun K2 hK2 => ?_
    generalize ha2 : a1.put (some 3) (.func (.func 98) #[] #[.pointer (some ⟨b, 0, none⟩)]) = a2 at hr2
    have hd2 : a2.defers = [] := by rw [← ha2]; exact hd1
    have hv3 : a2.eval (.tmp 3) = .func (.func 98) #[] #[.pointer (some ⟨b, 0, none⟩)] := hr2.slot 3 _ rfl
    have q2 : ∀ {aft g p t d ty}, (execOp a2.eval { dst := d, op := Op.defer { callee := .value (.tmp 3), args := #[], argTypes := ty }, type := t, pos := p, after := aft, guard := g }).run Tryz.prog w1 = .ok (.defer { target := .fn (.func 98) #[.pointer (some ⟨b, 0, none⟩)], args := #[] }) w1 := by
      intro aft g p t d ty
      simp [execOp, resolve, hv3, Deferred.ofValue]
    unfold Oper.wp
    rw [q2]
    refine hK2 _ _ (wpList_nil ?_)
    have hr3 : Rep Tryz.f59.ntmps ({ a2 with defers := { target := .fn (.func 98) #[.pointer (some ⟨b, 0, none⟩)], args := #[] } :: a2.defers } : Act) (put (some 3) (.func (.func 98) #[] #[.pointer (some ⟨b, 0, none⟩)]) [(0, .func (.func F) #[] caps.toArray), (2, .pointer (some ⟨b, 0, none⟩))]) := ⟨hr2.size, hr2.slot⟩
    refine wp_W (n := Tryz.f59.ntmps) (ds := [{ target := .fn (.func 98) #[.pointer (some ⟨b, 0, none⟩)], args := #[] }]) (Φ := fun ey ρ w3 => VW.look ρ 2 = some (.pointer (some ⟨b, 0, none⟩)) ∧ ∃ w2, Kp T w1 w2 ∧ Kp (fun i => i = b) w2 w3 ∧ Blk w3 b #[.int .i64 0] 25 ∧ ((ey = .ret ∧ N w1 w2) ∨ ∃ e, ey = .panic (trb e) ∧ E' w1 w2 e)) ?_ (by kernel_rfl) hr3 (by show _ :: a2.defers = _; rw [hd2]) ?_
    · have hBz : Blk w1 b #[.int .i64 0] 25 := hM1.at_
      have hTb : ¬ T b := fun h => by have := hT b h; omega
      (repeat (first | with_reducible refine W.seq ?_ | with_reducible refine W.region ?_ | refine z_p (kk := ?_)))
      refine Ops.callP rfl rfl rfl (callV_f rfl rfl rfl) hF (hf w1 (by omega) (Mk.bel hM1)) (fun r w2 hR => ?_) (fun ch w2 hR => ?_)
      · obtain ⟨k12, hN⟩ := hR
        have hB2 := hBz.kp k12 hTb
        (repeat (first | with_reducible refine W.seq ?_ | with_reducible refine Ops.nil ?_ | with_reducible refine W.region ?_))
        refine Ops.st rfl rfl rfl rfl rfl rfl rfl hB2 (by simp) (fun w3 hu => ?_)
        (repeat (first | with_reducible refine Ops.nil ?_))
        exact W.ret ⟨rfl, w2, k12, hu.kp, by simpa using hu.blk, .inl ⟨rfl, hN⟩⟩
      · obtain ⟨e, rfl, k12, hE⟩ := hR
        exact ⟨rfl, w2, k12, Kp.refl _ _, hBz.kp k12 hTb, .inr ⟨e, rfl, hE⟩⟩
    · intro ey a3 ρ3 w3 hr3 hl3
      have leave : ∀ (w3 : World) (e : Option Int), VW.look ρ3 2 = some (.pointer (some ⟨b, 0, none⟩)) → ∀ w2, Kp T w1 w2 → Kp (fun i => i = b) w2 w3 → Blk w3 b #[.int .i64 0] 25 → ((e = none ∧ N w1 w2) ∨ ∃ x, e = some x ∧ E' w1 w2 x) →
          LeavesInM Fence.wide 0 Tryz.prog Tryz.f59 a3.tmps (Ret fun r w' => ∃ w1 w2, w.heap.size < w1.heap.size ∧ Below w.heap.size w w1 ∧ Kp T w1 w2 ∧ Kp (fun i => i = w.heap.size) w2 w' ∧ ((r = .int .i64 0 ∧ N w1 w2) ∨ ∃ e, r = .int .i64 e ∧ E' w1 w2 e)) [{ target := .fn (.func 98) #[.pointer (some ⟨b, 0, none⟩)], args := #[] }] (match e with | some e => .panicking (trb e) | none => .returning) w3 := by
        intro w3 e h2 w2 k12 k23 hB hor
        refine ⟨by cases e <;> simp, .inr ⟨fun h => by simp [Fence.wide] at h, .func 98, #[.pointer (some ⟨b, 0, none⟩)], 98, #[.pointer (some ⟨b, 0, none⟩)], rfl, by simp [invoke], fun _ _ => trivial, ?_⟩⟩
        refine callsDIn_mono (guard1_c (e := e) hB) (fun en u' w4 h => ?_)
        obtain ⟨rfl, hs, hB4, k34⟩ := h
        show LeavesInM Fence.wide 0 Tryz.prog Tryz.f59 a3.tmps _ [] (settle u') w4
        rw [hs]
        refine ⟨_, run_resultsW hr3 (vs := [.int .i64 (e.getD 0)]) ⟨_, [], rfl, ⟨b, 0, _, 25, h2, rfl, hB4, rfl⟩, rfl⟩, _, rfl, w1, w2, by omega, Mk.bel hM1, k12, ?_, ?_⟩
        · rw [← e1]; exact kpb k23 k34
        · rcases hor with ⟨rfl, hN⟩ | ⟨x, rfl, hE⟩
          · exact .inl ⟨rfl, hN⟩
          · exact .inr ⟨x, rfl, hE⟩
      have key : ∀ {d ds : List Deferred} {w w2 : World} {R : Ending → World → Prop}, Marks d ds w w2 → LeavesInM Fence.wide 0 Tryz.prog Tryz.f59 a3.tmps R ds .returning w2 → LeavesInM Fence.wide 0 Tryz.prog Tryz.f59 a3.tmps R d .returning w := by
        intro d ds w w2 R h
        induction h with
        | nil => exact id
        | cons h _ ih => exact fun k => ⟨by simp, .inl ⟨_, _, rfl, run_takeDeferred h, ih k⟩⟩
      cases ey with
      | ret =>
        obtain ⟨w4, hm, h2, w2, k12, k23, hB, hor⟩ := hl3
        refine key hm (leave w4 none h2 w2 k12 k23 hB ?_)
        rcases hor with ⟨_, hN⟩ | ⟨e, h, _⟩
        · exact .inl ⟨rfl, hN⟩
        · cases h
      | panic ch =>
        obtain ⟨hd, h2, w2, k12, k23, hB, hor⟩ := hl3
        rcases hor with ⟨h, _⟩ | ⟨e, h, hE⟩
        · cases h
        · cases h
          show LeavesInM _ _ _ _ a3.tmps _ a3.defers _ w3
          rw [hd]
          exact leave w3 (some e) h2 w2 k12 k23 hB (.inr ⟨e, rfl, hE⟩)
      | _ =>
        obtain ⟨_, _, _, _, _, _, hor⟩ := hl3
        rcases hor with ⟨h, _⟩ | ⟨e, h, _⟩ <;> cases h
  | ret => obtain ⟨_, _, h, _⟩ := hl1; cases h
  | _ => obtain ⟨_, h, _⟩ := hl1; cases h
end Go.Proofs.YtcmjlmnfdncajaaGreatDoor
namespace Go.Proofs.YtcmjlmnfdncajaaGreatDoor
open Go Go.RowKit Go.Proofs.YtcmjlmnfdncajaaGreatDoor.VW Go.Proofs.YtcmjlmnfdncajaaGreatDoor.TW
attribute [local irreducible] W Ops OrdA VW.Ord OrdX Wi OpsI OrdF
theorem po_put {N : Nat} {w w' w8 : World} {v v' : Value} {l l' : List (Value × Nat)} (h : PO N w v l) (h8 : w8.heap.size = N) (hO : OP 119 pA pB w8 w' v' l') (k : w.heap.size ≤ w'.heap.size) : PO N w' v' l' := by
  have h1 := h.1
  refine ⟨by omega, tr_bel (by omega), hO.own, fun i hi => ?_⟩
  have := hO.ge i hi
  rw [tr_size (by omega)]
  omega
theorem checked1_c {w : World} {v : Value} {c : Nat} (hv : v.oneCell' = true) : Calls Tryz.prog 104 #[.agg #[v, .int .i64 (c : Int)]] w (Ret fun r w' => r = .bool (decide ((c : Int) > 1000)) ∧ Below w.heap.size w w') := by
  refine calls_W (vs := [_]) Tryz.func104 rfl (by kernel_rfl) rfl ?_
  (repeat (first | with_reducible refine W.seq ?_ | with_reducible refine W.region ?_))
  refine Ops.box rfl rfl rfl rfl (fun w1 b hM1 => ?_)
  have hB1 : Blk w1 b #[v, .int .i64 (c : Int)] 119 := hM1.at_
  (repeat (first | with_reducible refine W.seq ?_ | with_reducible refine Ops.nil ?_ | with_reducible refine W.region ?_ | refine z_p (kk := ?_) | refine z_f (kk := ?_) | refine z_d (kk := ?_)))
  exact W.fret rfl ⟨rfl, Mk.bel hM1⟩
theorem top_nth : ∀ (o : Od), (1000 < topO o ↔ ∃ i, i < lenO o ∧ 1000 < nthC o i)
  | .nil => by simp [topO, lenO]
  | .cons e c r => by
    have ih := top_nth r
    simp only [topO]
    constructor
    · intro h
      by_cases hc : 1000 < c
      · exact ⟨0, by simp [lenO], hc⟩
      · obtain ⟨i, h1, h2⟩ := ih.1 (by omega)
        exact ⟨i + 1, by simp [lenO]; omega, h2⟩
    · rintro ⟨i, h1, h2⟩
      cases i with
      | zero => simp only [nthC] at h2; omega
      | succ i =>
        have := ih.2 ⟨i, by simp [lenO] at h1; omega, h2⟩
        omega
theorem indexF_c {S' : Nat → Prop} {w : World} {v : Value} {o : Od} (hM : OM S' w v o) : Calls Tryz.prog 125 #[v, .func (.func 104) #[] #[]] w (Ret fun r w' => (∃ i : Int, r = .int .i64 i ∧ (0 ≤ i ↔ 1000 < topO o)) ∧ Below w.heap.size w w') := by
  obtain ⟨l, hR, hA⟩ := hM
  have hl := hA.len
  have hbd := hR.bd
  obtain ⟨A, c, rfl⟩ := hR.sh
  refine calls_W (vs := [_, _]) Tryz.func125 rfl (by kernel_rfl) rfl ?_
  (repeat (first | with_reducible refine W.seq ?_ | with_reducible refine Ops.nil ?_ | with_reducible refine W.region ?_ | refine z_p (kk := ?_) | with_reducible refine W.block ?_ | refine z_l (kk := ?_)))
  refine W.loop (fun m ρ w' => ∃ (i : Nat), m = l.length - i ∧ i ≤ l.length ∧ Below w.heap.size w w' ∧ (∀ j, j < i → ¬ 1000 < nthC o j) ∧ ρ = [(0, .slice A l.length c), (1, .func (.func 104) #[] #[]), (7, .int .i64 l.length), (8, .int .i64 i)])
    ⟨_, _, ⟨0, rfl, Nat.zero_le _, Below.refl _ _, fun j hj => by omega, rfl⟩, (by repeat (first | exact trivial | refine And.intro rfl ?_))⟩ ?_
  rintro m ρ w1 ⟨i, rfl, hi, hb1, hno, rfl⟩
  (repeat (first | with_reducible refine W.seq ?_ | with_reducible refine Ops.nil ?_ | with_reducible refine W.region ?_ | refine z_p (kk := ?_)))
  (first | refine W.condD rfl (fun hc => ?_) (fun hc => ?_) | refine W.condE rfl (fun hc => ?_) (fun hc => ?_) | refine W.condN rfl (fun hc => ?_) (fun hc => ?_) | refine W.cond rfl (fun hc => ?_) (fun hc => ?_))
  · have hil : i < l.length := by omega
    obtain ⟨a2, aM⟩ := hA.at_ (i := i) (by omega)
    have ha1 := aM.one
    (repeat (first | with_reducible refine W.seq ?_ | with_reducible refine Ops.nil ?_ | with_reducible refine W.region ?_ | refine z_p (kk := ?_) | with_reducible refine W.skip ?_ | with_reducible refine W.block ?_ | refine z_R2 (kk := fun _ => ?_)))
    rw [a2]
    refine Ops.call rfl rfl rfl rfl rfl (checked1_c ha1) (fun r w2 hR2 => ?_)
    obtain ⟨rfl, hb2⟩ := hR2
    (repeat (first | with_reducible refine Ops.nil ?_))
    by_cases hc : ((nthC o i : Nat) : Int) > 1000
    · rw [decide_eq_true hc]
      refine W.condT rfl (by first | rfl | assumption | (simp only [bnf] <;> omega) | (simp only [*, bnf]; done) | fail) ?_
      (repeat (first | with_reducible refine W.seq ?_ | with_reducible refine Ops.nil ?_ | with_reducible refine W.region ?_ | refine z_p (kk := ?_)))
      exact W.fret rfl ⟨⟨i, rfl, fun _ => (top_nth o).2 ⟨i, by omega, by omega⟩, fun _ => by omega⟩, Below.via hb1 hb2⟩
    · rw [decide_eq_false hc]
      refine W.condF rfl (by first | rfl | assumption | (simp only [bnf] <;> omega) | (simp only [*, bnf]; done) | fail) ?_
      (repeat (first | with_reducible refine Ops.nil ?_ | with_reducible refine W.region ?_ | refine z_p (kk := ?_) | refine z_a (kk := ?_) | with_reducible refine W.skip ?_ | with_reducible refine W.endb ?_))
      exact W.endl ⟨_, _, ⟨⟨i + 1, rfl, by omega, Below.via hb1 hb2, fun j hj => by by_cases e : j = i; subst e; omega; exact hno j (by omega), rfl⟩, by omega⟩, (by repeat (first | exact trivial | refine And.intro rfl ?_))⟩
  · have hil : i = l.length := by omega
    subst hil
    (repeat (first | with_reducible refine W.seq ?_ | with_reducible refine Ops.nil ?_ | with_reducible refine W.region ?_ | refine z_p (kk := ?_) | refine W.exit rfl ?_))
    refine W.fret rfl ⟨⟨-1, rfl, fun h => absurd h (by omega), fun h => ?_⟩, hb1⟩
    obtain ⟨j, h1, h2⟩ := (top_nth o).1 h
    exact absurd h2 (hno j (by omega))
theorem contains_c {S' : Nat → Prop} {w : World} {v : Value} {o : Od} (hM : OM S' w v o) : Calls Tryz.prog 103 #[v, .func (.func 104) #[] #[]] w (Ret fun r w' => r = .bool (decide (1000 < topO o)) ∧ Below w.heap.size w w') := by
  refine calls_W (vs := [_, _]) Tryz.func103 rfl (by kernel_rfl) rfl ?_
  (repeat (first | with_reducible refine W.seq ?_ | with_reducible refine Ops.nil ?_ | with_reducible refine W.region ?_ | refine z_p (kk := ?_)))
  refine Ops.call rfl rfl rfl rfl rfl (indexF_c hM) (fun r w1 hR => ?_)
  obtain ⟨⟨i, rfl, hi⟩, hb1⟩ := hR
  (repeat (first | with_reducible refine Ops.nil ?_ | refine z_p (kk := ?_)))
  refine W.fret rfl ⟨?_, hb1⟩
  show Value.bool _ = _
  simp only [Value.bool.injEq]
  exact decide_eq_decide.2 hi
theorem checked_c {S' : Nat → Prop} {w : World} {v : Value} {o : Od} (hM : OM S' w v o) (hz : szO o ≤ 1000000000000) : Calls Tryz.prog 67 #[v] w (RetP (fun r w' => r = v ∧ bigT o = false ∧ Below w.heap.size w w') (fun ch w' => ch = trb 5 ∧ bigT o = true ∧ Below w.heap.size w w')) := by
  refine calls_WP (vs := [_]) Tryz.func67 rfl (by kernel_rfl) rfl ?_
  (repeat (first | with_reducible refine W.seq ?_ | with_reducible refine Ops.nil ?_ | with_reducible refine W.region ?_ | refine z_p (kk := ?_)))
  refine Ops.call rfl rfl rfl rfl rfl (contains_c hM) (fun r w1 hR => ?_)
  obtain ⟨rfl, hb1⟩ := hR
  by_cases ht : 1000 < topO o
  · rw [decide_eq_true ht]
    (repeat (first | with_reducible refine W.seq ?_ | with_reducible refine Ops.nil ?_ | with_reducible refine W.region ?_ | refine z_p (kk := ?_) | refine z_n (kk := ?_)))
    refine Ops.callP rfl rfl rfl rfl rfl (demand_c _ _ _) (fun r w2 hR => ?_) (fun ch w2 hR => ?_)
    · exact absurd hR.1 (by decide)
    · obtain ⟨_, rfl, rfl⟩ := hR
      exact ⟨rfl, decide_eq_true (.inl ht), hb1⟩
  · rw [decide_eq_false ht]
    (repeat (first | with_reducible refine W.seq ?_ | with_reducible refine Ops.nil ?_ | with_reducible refine W.region ?_ | refine z_p (kk := ?_) | refine z_y (kk := ?_)))
    refine Ops.call rfl rfl rfl rfl rfl (size_c _ (Nat.le_refl _) (by omega) (hM.below hb1)) (fun r w2 hR => ?_)
    obtain ⟨rfl, hb2⟩ := hR
    have hb02 := Below.via hb1 hb2
    (repeat (first | refine z_p (kk := ?_) | refine z_y (kk := ?_)))
    refine Ops.callP rfl rfl rfl rfl rfl (demand_c _ _ _) (fun r w3 hR => ?_) (fun ch w3 hR => ?_)
    · obtain ⟨h1, rfl⟩ := hR
      have h1' : szO o ≤ 60 := by simp at h1; omega
      (repeat (first | with_reducible refine W.seq ?_ | with_reducible refine Ops.nil ?_ | with_reducible refine W.region ?_ | refine z_p (kk := ?_)))
      exact W.fretP rfl ⟨rfl, decide_eq_false (by omega), hb02⟩
    · obtain ⟨h1, rfl, rfl⟩ := hR
      have h1' : ¬ szO o ≤ 60 := by simp at h1; omega
      exact ⟨rfl, decide_eq_true (by omega), hb02⟩
end Go.Proofs.YtcmjlmnfdncajaaGreatDoor
namespace Go.Proofs.YtcmjlmnfdncajaaGreatDoor
open Go Go.RowKit Go.Proofs.YtcmjlmnfdncajaaGreatDoor.VW Go.Proofs.YtcmjlmnfdncajaaGreatDoor.TW
attribute [local irreducible] W Ops OrdA VW.Ord OrdX Wi OpsI OrdF
theorem top_at {o : Od} {i : Nat} (h : i < lenO o) : nthC o i ≤ topO o := by
  have key : ∀ (o : Od) (i : Nat), i < lenO o → nthC o i ≤ topO o := fun o => by
    induction o with
    | nil => intro i h; simp [lenO] at h
    | cons e c r _ ih =>
      intro i h
      cases i with
      | zero => simp only [nthC, topO]; omega
      | succ i =>
        have := ih i (by simp [lenO] at h; omega)
        simp only [nthC, topO]; omega
  exact key o i h
theorem appO_cons_snoc (a e : Od) (c : Nat) (r : Od) : appO a (.cons e c r) = appO (snocO a e c) r := (appO_snoc a e r c).symm
theorem OA_app {S : Nat → Prop} {w : World} : ∀ {o l}, OA S w o l → ∀ {o2 l2}, OA S w o2 l2 → OA S w (appO o o2) (l ++ l2)
  | .nil, l, h, o2, l2, h2 => by
    have : l = [] := h
    subst this
    exact h2
  | .cons e c r, l, ⟨v, l', le, h1, h3, h4, h5⟩, o2, l2, h2 => by
    subst h1
    exact ⟨v, l' ++ l2, le, rfl, h3, h4, OA_app h5 h2⟩
theorem OA_one {S : Nat → Prop} {w : World} : ∀ {o l}, OA S w o l → ∀ p, p ∈ l → p.1.oneCell' = true
  | .nil, l, h, p, hp => by
    have : l = [] := h
    subst this
    simp at hp
  | .cons e c r, l, ⟨v, l', le, h1, h3, h4, h5⟩, p, hp => by
    subst h1
    rcases List.mem_cons.1 hp with rfl | hp
    · exact h3.one
    · exact OA_one h5 p hp
theorem top_le {o : Od} {M : Nat} (h : topO o ≤ M) {i : Nat} (hi : i < lenO o) : nthC o i ≤ M := Nat.le_trans (top_at hi) h
set_option maxHeartbeats 8000000 in
theorem sum_c {S' : Nat → Prop} {w : World} {va vb : Value} {a b : Od} (hS : ∀ i, S' i → i < w.heap.size) (hA : OM S' w va a) (hB : OM S' w vb b) (hza : szO a ≤ 100000) (hzb : szO b ≤ 100000) (hta : topO a ≤ 10000000) (htb : topO b ≤ 10000000) :
    Calls Tryz.prog 73 #[va, vb] w (RetP (fun r w' => ∃ o, addC a b = some o ∧ OM S' w' r o ∧ Below w.heap.size w w') (fun ch w' => ch = trb 5 ∧ addC a b = none ∧ Below w.heap.size w w')) := by
  have hA0 := hA
  have hB0 := hB
  obtain ⟨la, hRa, hAa⟩ := hA
  obtain ⟨lb, hRb, hAb⟩ := hB
  have hla := hAa.len
  have hlb := hAb.len
  have hza' := len_le_sz a
  have hzb' := len_le_sz b
  obtain ⟨Aa, ca, rfl⟩ := hRa.sh
  obtain ⟨Ab, cb, rfl⟩ := hRb.sh
  refine calls_WP (vs := [_, _]) Tryz.func73 rfl (by kernel_rfl) rfl ?_
  cases b with
  | nil =>
    have hz : lb.length = 0 := hlb
    (repeat (first | with_reducible refine W.seq ?_ | with_reducible refine Ops.nil ?_ | with_reducible refine W.region ?_ | refine z_p (kk := ?_) | refine z_l (kk := ?_)))
    refine W.condT rfl (by first | rfl | assumption | (simp only [bnf] <;> omega) | (simp only [*, bnf]; done) | fail) ?_
    (repeat (first | with_reducible refine W.seq ?_ | with_reducible refine Ops.nil ?_ | with_reducible refine W.region ?_ | refine z_p (kk := ?_)))
    exact W.fretP rfl ⟨a, rfl, hA0, Below.refl _ _⟩
  | cons be bc br =>
    have hz : lb.length = lenO br + 1 := hlb
    obtain ⟨b2, bM⟩ := hAb.at_ (i := 0) (by simp [lenO])
    have hb1 := bM.one
    have hbd := hAb.drop 1
    have htb' := htb
    simp only [topO] at htb'
    rw [show nthE (.cons be bc br) 0 = be from rfl] at bM
    rw [show nthC (.cons be bc br) 0 = bc from rfl] at b2
    rw [show dropO (.cons be bc br) 1 = br by cases br <;> rfl] at hbd
    (repeat (first | with_reducible refine W.seq ?_ | with_reducible refine Ops.nil ?_ | with_reducible refine W.region ?_ | refine z_p (kk := ?_) | refine z_l (kk := ?_)))
    refine W.condF rfl (by first | rfl | assumption | (simp only [bnf] <;> omega) | (simp only [*, bnf]; done) | fail) ?_
    (repeat (first | with_reducible refine W.seq ?_ | with_reducible refine Ops.nil ?_ | with_reducible refine W.region ?_ | refine z_p (kk := ?_) | with_reducible refine W.skip ?_))
    refine z_R2 (i := 0) (kk := fun _ => ?_)
    rw [b2]
    generalize hvb : (lb.getD 0 default).1 = vb0 at *
    refine Ops.alloc rfl rfl rfl rfl (fun w1 b6 hM1 => ?_)
    refine Ops.stN (vs := [vb0, .int .i64 (bc : Nat)]) (cs := [.slice none 0 0, .int .i64 0]) rfl rfl rfl rfl rfl rfl (by intro v hv; simp at hv; rcases hv with rfl | rfl; exact hb1; rfl) rfl hM1.at_ (fun w2 hu2 => ?_)
    have B2 : Blk w2 b6 #[vb0, .int .i64 (bc : Nat)] 119 := hu2.blk
    have e1 := hM1.r_eq
    have hb02 : Below w.heap.size w w2 := Below.put (Mk.bel hM1) hu2.kp (fun k e => by omega)
    have hw2s := hb02.size
    have hb6 := B2.lt
    (repeat (first | with_reducible refine W.seq ?_ | with_reducible refine Ops.nil ?_ | with_reducible refine W.region ?_ | refine z_p (kk := ?_) | with_reducible refine W.block ?_ | refine z_l (kk := ?_)))
    refine W.loop (fun m ρ w3 => ∃ (i k : Nat) (acc : Od) (l : List (Value × Nat)) (ov : Value), m = la.length - i ∧ i ≤ la.length ∧ ρ = [(1, .slice Ab lb.length cb), (5, ov), (6, .pointer (some ⟨b6, 0, none⟩)), (16, .slice Aa la.length ca), (17, .int .i64 la.length), (18, .int .i64 i)] ∧
        Below w.heap.size w w3 ∧ PO w.heap.size w3 ov l ∧ OA S' w acc l ∧ Blk w3 b6 #[vb0, .int .i64 (k : Nat)] 119 ∧ (∀ j, ov.ownBlock = some j → j ≠ b6) ∧ addGo be br a bc = appO acc (addGo be br (dropO a i) k) ∧ k ≤ 10000000 * (i + 1) ∧ lenO acc ≤ i)
      ⟨_, _, ⟨0, bc, .nil, [], _, rfl, Nat.zero_le _, rfl, hb02, PO.nil (by omega), rfl, B2, fun j hj => by simp [Value.ownBlock] at hj, by rw [dropO_zero]; rfl, by omega, Nat.zero_le _⟩, (by repeat (first | exact trivial | refine And.intro rfl ?_))⟩ ?_
    clear hb02 B2 hu2 hM1 hb6 hw2s
    rintro m ρ w3 ⟨i, k, acc, l, ov, rfl, hi, rfl, hb03, hP, hAc, B3, hne, heq, hk, hlac⟩
    have hPs := hP.1
    have hb33 : Below w3.heap.size w3 w3 := Below.refl _ _
    have hlen := hAc.len
    (repeat (first | with_reducible refine W.seq ?_ | with_reducible refine Ops.nil ?_ | with_reducible refine W.region ?_ | refine z_p (kk := ?_)))
    (first | refine W.condD rfl (fun hc => ?_) (fun hc => ?_) | refine W.condE rfl (fun hc => ?_) (fun hc => ?_) | refine W.condN rfl (fun hc => ?_) (fun hc => ?_) | refine W.cond rfl (fun hc => ?_) (fun hc => ?_))
    · have hil : i < la.length := by omega
      obtain ⟨a2, aM⟩ := hAa.at_ (i := i) (by omega)
      have ha1 := aM.one
      have htc := top_le hta (i := i) (by omega)
      rw [dropO_cons (by omega), addGo] at heq
      generalize hva : (la.getD i default).1 = va at *
      generalize hca : (la.getD i default).2 = cc at *
      subst a2
      (repeat (first | with_reducible refine W.seq ?_ | with_reducible refine W.region ?_ | with_reducible refine W.skip ?_ | with_reducible refine W.block ?_ | refine z_R2 (kk := fun _ => ?_)))
      rw [hva, hca]
      refine Ops.alloc rfl rfl rfl rfl (fun w4 b8 hM4 => ?_)
      refine Ops.stN (vs := [va, .int .i64 (nthC a i : Nat)]) (cs := [.slice none 0 0, .int .i64 0]) rfl rfl rfl rfl rfl rfl (by intro v hv; simp at hv; rcases hv with rfl | rfl; exact ha1; rfl) rfl hM4.at_ (fun w5 hu5 => ?_)
      have B5 : Blk w5 b8 #[va, .int .i64 (nthC a i : Nat)] 119 := hu5.blk
      have e4 := hM4.r_eq
      have hb35 : Below w3.heap.size w3 w5 := Below.put (Mk.bel hM4) hu5.kp (fun k e => by omega)
      have hb05 := Below.via hb03 hb35
      have B35 := B3.kp (Kp.of_below (S := fun _ => False) hb35) (fun e => e)
      (repeat (first | with_reducible refine W.seq ?_ | with_reducible refine Ops.nil ?_ | with_reducible refine W.region ?_ | refine z_f (kk := ?_) | refine z_d (kk := ?_)))
      refine Ops.call rfl rfl rfl rfl rfl (compare_c _ (Nat.le_refl _) (aM.below hb05) (bM.below hb05)) (fun r w6 hR => ?_)
      obtain ⟨rfl, hb56⟩ := hR
      have hb06 := Below.via hb05 hb56
      have B86 := B5.kp (Kp.of_below (S := fun _ => False) hb56) (fun e => e)
      have B66 := B35.kp (Kp.of_below (S := fun _ => False) hb56) (fun e => e)
      have kz : Kp (fun _ => False) w3 w6 := Kp.of_below (S := fun _ => False) (Below.via hb35 hb56)
      have hP6 := po_kp hP kz (fun _ _ e => e)
      have hb66 : Below w6.heap.size w6 w6 := Below.refl _ _
      clear hP B3 B5 B35 hb03 hb33 hb35 hb05 hb56 kz hu5 hM4
      (repeat (first | with_reducible refine W.seq ?_ | with_reducible refine Ops.nil ?_ | with_reducible refine W.region ?_ | refine z_p (kk := ?_) | with_reducible refine W.block ?_))
      have hb6lt := B66.lt
      rcases cmp_rng (nthE a i) be with hx | hx | hx
      · rw [hx] at heq ⊢
        rw [if_neg (by omega), if_neg (by omega)] at heq
        refine W.condF rfl (by first | rfl | assumption | (simp only [bnf] <;> omega) | (simp only [*, bnf]; done) | fail) ?_
        (repeat (first | with_reducible refine W.seq ?_ | with_reducible refine Ops.nil ?_ | with_reducible refine W.region ?_ | refine z_p (kk := ?_)))
        refine W.condF rfl (by first | rfl | assumption | (simp only [bnf] <;> omega) | (simp only [*, bnf]; done) | fail) ?_
        (repeat (first | with_reducible refine Ops.nil ?_ | with_reducible refine W.region ?_ | refine z_p (kk := ?_) | refine z_a (kk := ?_) | with_reducible refine W.skip ?_ | with_reducible refine W.endb ?_))
        exact W.endl ⟨_, _, ⟨⟨i + 1, k, acc, l, ov, rfl, by omega, rfl, hb06, hP6, hAc, B66, hne, heq, by omega, by omega⟩, by omega⟩, (by repeat (first | exact trivial | refine And.intro rfl ?_))⟩
      · rw [hx] at heq ⊢
        rw [if_neg (by omega), if_pos rfl] at heq
        refine W.condF rfl (by first | rfl | assumption | (simp only [bnf] <;> omega) | (simp only [*, bnf]; done) | fail) ?_
        (repeat (first | with_reducible refine W.seq ?_ | with_reducible refine Ops.nil ?_ | with_reducible refine W.region ?_ | refine z_p (kk := ?_)))
        refine W.condT rfl (by first | rfl | assumption | (simp only [bnf] <;> omega) | (simp only [*, bnf]; done) | fail) ?_
        (repeat (first | with_reducible refine W.region ?_ | refine z_a (kk := ?_) | refine z_f (kk := ?_) | refine z_d (kk := ?_)))
        rw [show ((k : Nat) : Int) + ((nthC a i : Nat) : Int) = ((k + nthC a i : Nat) : Int) by omega]
        refine Ops.st rfl rfl rfl rfl rfl rfl rfl B66 (by simp) (fun w7 hu7 => ?_)
        have hP7 := po_kp hP6 hu7.kp (fun j hj => hne j hj)
        (repeat (first | with_reducible refine Ops.nil ?_ | with_reducible refine W.region ?_ | refine z_p (kk := ?_) | refine z_a (kk := ?_) | with_reducible refine W.endb ?_))
        exact W.endl ⟨_, _, ⟨⟨i + 1, k + nthC a i, acc, l, ov, rfl, by omega, rfl, Below.put hb06 hu7.kp (fun j hj => by omega), hP7, hAc, hu7.blk, hne, heq, by omega, by omega⟩, by omega⟩, (by repeat (first | exact trivial | refine And.intro rfl ?_))⟩
      · rw [hx] at heq ⊢
        rw [if_pos rfl, appO_cons_snoc] at heq
        refine W.condT rfl (by first | rfl | assumption | (simp only [bnf] <;> omega) | (simp only [*, bnf]; done) | fail) ?_
        (repeat (first | with_reducible refine W.region ?_ | refine z_p (kk := ?_) | refine z_D2 (kk := ?_)))
        refine Ops.pushP (fa := pA) (fb := pB) (z := (va, nthC a i)) rfl rfl rfl rfl rfl rfl rfl rfl rfl rfl rfl (fun _ => rfl) ha1 rfl hP6.2 (by omega) (fun lv' p w7 hO7 k7 hn7 => ?_)
        have hP7 := po_put hP6 (tr_size hP6.1) hO7 k7.size
        have B77 := B66.kp k7 (fun h => hne _ h rfl)
        have hAs := OA_snoc (c := nthC a i) aM hAc
        have hls : lenO (snocO acc (nthE a i) (nthC a i)) = lenO acc + 1 := by unfold snocO; rw [lenO_app]; rfl
        (repeat (first | with_reducible refine Ops.nil ?_ | with_reducible refine W.region ?_ | refine z_p (kk := ?_) | refine z_a (kk := ?_) | with_reducible refine W.endb ?_))
        exact W.endl ⟨_, _, ⟨⟨i + 1, k, snocO acc (nthE a i) (nthC a i), l ++ [(va, nthC a i)], lv', rfl, by omega, rfl, Below.put hb06 k7 (fun j hj => po_ge hP6 j hj), hP7, hAs, B77, fun j hj e => by rcases hn7 j hj with q | q; exact hne j q e; omega, heq, by omega, by omega⟩, by omega⟩, (by repeat (first | exact trivial | refine And.intro rfl ?_))⟩
    · have hil : i = la.length := by omega
      subst hil
      rw [hla, dropO_len] at heq
      have heq' : addO a (.cons be bc br) = appO acc (.cons be k br) := heq
      have hb33 : Below w3.heap.size w3 w3 := Below.refl _ _
      have hlbr := hbd.len
      have hsb : szO (.cons be bc br) = 1 + szO be + szO br := rfl
      (repeat (first | with_reducible refine W.seq ?_ | refine W.exit rfl ?_))
      refine W.ordA 2 [(0, 1), (1, 2), (4, 1), (5, 1), (2, 0), (3, 0), (6, 0), (7, 0), (8, 1)] rfl (by kernel_rfl) rfl (by kernel_rfl) (fun _ _ _ h => h) ?_
      (repeat (first | refine x_p (kk := ?_) | refine x_D2 (kk := ?_)))
      refine x_ev rfl (fun _ => EV.slP (q := 1) rfl rfl rfl rfl rfl (by omega)) (kk := ?_)
      refine OrdA.tail (fun w4 hb4 => ?_)
      have hb04 := Below.via hb03 hb4
      have hP4 := po_kp hP (Kp.of_below (S := fun _ => False) hb4) (fun _ _ e => e)
      refine VW.Ord.pushP (z := (vb0, k)) rfl rfl rfl rfl rfl rfl rfl rfl rfl rfl rfl rfl rfl (fun _ => rfl) hb1 rfl hP4.2 (by omega) (fun lv5 p w5 hO5 k5 hn5 => ?_)
      have hP5 := po_put hP4 (tr_size hP4.1) hO5 k5.size
      have hb05 := Below.put hb04 k5 (fun j hj => po_ge hP4 j hj)
      have hRd := (hRb.slD (q := 1) (by omega)).below hb05
      have hAs := OA_snoc (c := k) bM hAc
      have hdl : (lb.drop 1).length = lenO br := hbd.len
      refine VW.Ord.effT rfl (Ops.appP rfl rfl rfl rfl rfl rfl rfl rfl rfl hP5.2 hRd (OA_one hbd) (by rw [List.length_append, List.length_singleton]; omega) (fun v6 w6 hO6 k6 hn6 => Ops.nil (W.endl ?_)))
      have hP6 := po_put hP5 (tr_size hP5.1) hO6 k6.size
      have hb06 := Below.put hb05 k6 (fun j hj => po_ge hP5 j hj)
      have hOA := OA_app hAs hbd
      rw [appO_snoc, ← heq'] at hOA
      have hsz := (add_sizes a (.cons be bc br)).1
      have hM6 : OM S' w6 v6 (addO a (.cons be bc br)) := ⟨_, po_R2 hP6 (by rw [List.length_append, List.length_append, List.length_singleton]; omega) (fun j hj h => by have := po_ge hP6 j hj; have := hS j h; omega), hOA.kp (Kp.of_below (S := fun _ => False) hb06) (fun _ e => e.elim)⟩
      refine VW.Ord.effT rfl (Ops.callP rfl rfl rfl rfl rfl (checked_c hM6 (by omega)) (fun r w7 hR => ?_) (fun ch w7 hR => ?_))
      · obtain ⟨rfl, hbig, hb67⟩ := hR
        refine Ops.nil (W.endl ?_)
        (repeat (first | refine y_p (kk := ?_)))
        refine VW.Ord.nil ?_
        skip
        refine W.fretP rfl ⟨addO a (.cons be bc br), ?_, hM6.below hb67, Below.via hb06 hb67⟩
        rw [addC_cons]
        unfold TW.chk
        rw [hbig]; rfl
      · obtain ⟨rfl, hbig, hb67⟩ := hR
        refine ⟨rfl, ?_, Below.via hb06 hb67⟩
        rw [addC_cons]
        unfold TW.chk
        rw [hbig]; rfl
end Go.Proofs.YtcmjlmnfdncajaaGreatDoor
namespace Go.Proofs.YtcmjlmnfdncajaaGreatDoor
open Go Go.RowKit Go.Proofs.YtcmjlmnfdncajaaGreatDoor.VW Go.Proofs.YtcmjlmnfdncajaaGreatDoor.TW
attribute [local irreducible] W Ops OrdA VW.Ord OrdX Wi OpsI OrdF
/-- What a function of two ordinals gives, as a text, or the error. -/
def bothR (G : Od → Od → Except Int Od) (s t : List UInt8) : Except Int (List UInt8) := match rdA s with
  | none => .error 4
  | some a => match rdA t with
    | none => .error 4
    | some b => (G a b).map txO
structure FunO (F : Nat) (G : Od → Od → Except Int Od) : Prop where
  mem : memB (Fns.L Tryz.prog) F = true
  call : ∀ {S' : Nat → Prop} {w : World} {va vb : Value} {a b : Od}, (∀ i, S' i → i < w.heap.size) → OM S' w va a → OM S' w vb b → NF a → NF b → Small a → Small b → szO a ≤ 60 → szO b ≤ 60 →
    Calls Tryz.prog F #[va, vb] w (RetP (fun r w' => ∃ o, G a b = .ok o ∧ OM S' w' r o ∧ Below w.heap.size w w' ∧ szO o ≤ 100000 ∧ mostO o ≤ 9999) (fun ch w' => ∃ e, ch = trb e ∧ G a b = .error e ∧ Below w.heap.size w w'))
theorem kpF {w w' : World} (h : Below w.heap.size w w') : Kp (fun _ => False) w w' := Kp.of_below h
theorem both1_c {F : Nat} {G : Od → Od → Except Int Od} (hF : FunO F G) {w : World} {b0 b1 b2 b3 : Nat} {s t : List UInt8} (hs : s.length ≤ 4294967295) (ht : t.length ≤ 4294967295) (hT : Tbl w)
    (B0 : Blk w b0 #[S s] 9) (B1 : Blk w b1 #[S t] 9) (B2 : Blk w b2 #[.func (.func F) #[] #[]] 95) (B3 : Blk w b3 #[S []] 9) :
    Calls Tryz.prog 110 #[.pointer (some ⟨b0, 0, none⟩), .pointer (some ⟨b1, 0, none⟩), .pointer (some ⟨b2, 0, none⟩), .pointer (some ⟨b3, 0, none⟩)] w
      (RetP (fun _ w' => Kp (fun i => i = b3) w w' ∧ ∃ x, bothR G s t = .ok x ∧ Blk w' b3 #[S x] 9) (fun ch w' => ∃ e, ch = trb e ∧ Kp (fun i => i = b3) w w' ∧ bothR G s t = .error e ∧ Kp (fun _ => False) w w')) := by
  refine calls_WP (vs := [_, _, _, _]) Tryz.func110 rfl (by kernel_rfl) rfl ?_
  (repeat (first | with_reducible refine W.seq ?_ | with_reducible refine W.region ?_ | refine z_d (kk := ?_)))
  refine Ops.callP rfl rfl rfl rfl rfl (readOrdinal_c hs) (fun va w1 hR => ?_) (fun ch w1 hR => ?_)
  rotate_left
  · obtain ⟨rfl, h1, hb1⟩ := hR
    exact ⟨4, rfl, (kpF hb1).mono (fun _ _ e => e.elim), by unfold bothR; rw [h1], kpF hb1⟩
  obtain ⟨a, ha, hA, hb1⟩ := hR
  have B11 := B1.kp (kpF hb1) (fun e => e)
  have B21 := B2.kp (kpF hb1) (fun e => e)
  have B31 := B3.kp (kpF hb1) (fun e => e)
  (repeat (first | with_reducible refine W.seq ?_ | with_reducible refine Ops.nil ?_ | with_reducible refine W.region ?_ | refine z_p (kk := ?_) | refine z_d (kk := ?_)))
  refine Ops.callP rfl rfl rfl rfl rfl (readOrdinal_c ht) (fun vb w2 hR => ?_) (fun ch w2 hR => ?_)
  rotate_left
  · obtain ⟨rfl, h1, hb2⟩ := hR
    exact ⟨4, rfl, (kpF (Below.via hb1 hb2)).mono (fun _ _ e => e.elim), by unfold bothR; rw [ha, h1], kpF (Below.via hb1 hb2)⟩
  obtain ⟨b, hb, hB, hb2⟩ := hR
  have hb02 := Below.via hb1 hb2
  have B22 := B21.kp (kpF hb2) (fun e => e)
  have B32 := B31.kp (kpF hb2) (fun e => e)
  have hA2 := hA.below hb2
  have hB2 : OM (fun i => i < w.heap.size) w2 vb b := hB.more (fun i h => .inl (by have := hb1.size; omega))
  obtain ⟨na, sa, za⟩ := rdA_spec ha
  obtain ⟨nb, sb, zb⟩ := rdA_spec hb
  (repeat (first | with_reducible refine Ops.nil ?_ | with_reducible refine W.region ?_ | refine z_p (kk := ?_) | refine z_d (kk := ?_)))
  refine Ops.callP rfl rfl rfl rfl hF.mem (hF.call (S' := fun i => i < w.heap.size) (fun i h => by have := hb02.size; omega) hA2 hB2 na nb sa sb za zb) (fun vo w3 hR => ?_) (fun ch w3 hR => ?_)
  rotate_left
  · obtain ⟨e, rfl, h1, hb3⟩ := hR
    exact ⟨e, rfl, (kpF (Below.via hb02 hb3)).mono (fun _ _ e => e.elim), by unfold bothR; rw [ha, hb]; simp only; rw [h1]; rfl, kpF (Below.via hb02 hb3)⟩
  obtain ⟨o, h1, hO, hb3, hz, hm⟩ := hR
  have hb03 := Below.via hb02 hb3
  have B33 := B32.kp (kpF hb3) (fun e => e)
  skip
  refine Ops.call rfl rfl rfl rfl rfl (text_c _ (Nat.le_refl _) (by omega) hm (hT.below hb03) hO) (fun r w4 hR => ?_)
  obtain ⟨rfl, hb4⟩ := hR
  have B34 := B33.kp (kpF hb4) (fun e => e)
  refine Ops.st rfl rfl rfl rfl rfl rfl rfl B34 (by simp) (fun w5 hu => ?_)
  (repeat (first | with_reducible refine Ops.nil ?_))
  refine W.fendP rfl ⟨((kpF (Below.via hb03 hb4)).trans hu.kp).mono (fun _ _ e => by rcases e with e | e; exact e.elim; exact e), txO o, ?_, by simpa using hu.blk⟩
  unfold bothR
  rw [ha, hb]
  simp only
  rw [h1]; rfl
def outS : Except Int (List UInt8) → List UInt8
  | .ok x => x
  | .error _ => []
def outE {α : Type} : Except Int α → Int
  | .ok _ => 0
  | .error e => e
theorem both_c {F : Nat} {G : Od → Od → Except Int Od} (hF : FunO F G) {w : World} {s t : List UInt8} (hs : s.length ≤ 4294967295) (ht : t.length ≤ 4294967295) (hT : Tbl w) :
    Calls Tryz.prog 72 #[S s, S t, .func (.func F) #[] #[]] w (Ret fun r w' => r = .tuple #[S (outS (bothR G s t)), .int .i64 (outE (bothR G s t))] ∧ Below w.heap.size w w') := by
  refine calls_W (vs := [_, _, _]) Tryz.func72 rfl (by kernel_rfl) rfl ?_
  (repeat (first | with_reducible refine W.seq ?_ | with_reducible refine W.region ?_))
  refine Ops.box rfl rfl rfl rfl (fun w1 b0 hM1 => ?_)
  refine Ops.box rfl rfl rfl rfl (fun w2 b1 hM2 => ?_)
  refine Ops.box rfl rfl rfl rfl (fun w3 b2 hM3 => ?_)
  refine Ops.alloc rfl rfl rfl rfl (fun w4 b3 hM4 => ?_)
  have hb34 := Mk.bel hM4
  have hb24 := Below.via (Mk.bel hM3) hb34
  have hb14 := Below.via (Mk.bel hM2) hb24
  have hb04 := Below.via (Mk.bel hM1) hb14
  have B0 : Blk w4 b0 #[S s] 9 := Blk.kp (w := w1) (hM1.at_) (kpF hb14) (fun e => e)
  have B1 : Blk w4 b1 #[S t] 9 := Blk.kp (w := w2) (hM2.at_) (kpF hb24) (fun e => e)
  have B2 : Blk w4 b2 #[.func (.func F) #[] #[]] 95 := Blk.kp (w := w3) (hM3.at_) (kpF hb34) (fun e => e)
  have B3 : Blk w4 b3 #[S []] 9 := hM4.at_
  have e3 := hM4.r_eq
  have s1 := (Mk.bel hM1).size
  have s2 := hb14.size
  have s3 := hb24.size
  have l3 := B3.lt
  have hw03 := (Below.via (Mk.bel hM1) (Below.via (Mk.bel hM2) (Mk.bel hM3))).size
  (repeat (first | with_reducible refine W.seq ?_ | with_reducible refine Ops.nil ?_ | with_reducible refine W.region ?_ | refine z_p (kk := ?_)))
  refine Ops.call rfl rfl rfl rfl rfl (guard_c (F := 110) (caps := [.pointer (some ⟨b0, 0, none⟩), .pointer (some ⟨b1, 0, none⟩), .pointer (some ⟨b2, 0, none⟩), .pointer (some ⟨b3, 0, none⟩)]) (T := fun i => i = b3) (N := fun _ w' => ∃ x, bothR G s t = .ok x ∧ Blk w' b3 #[S x] 9) (E' := fun w1 w' e => bothR G s t = .error e ∧ Kp (fun _ => False) w1 w') rfl (fun i h => by omega) (fun w5 hlt hb5 => both1_c hF hs ht (hT.below (Below.via hb04 hb5)) (B0.kp (kpF hb5) (fun e => e)) (B1.kp (kpF hb5) (fun e => e)) (B2.kp (kpF hb5) (fun e => e)) (B3.kp (kpF hb5) (fun e => e)))) (fun r w' hR => ?_)
  obtain ⟨w5, w6, hlt, hb5, k56, k67, hor⟩ := hR
  have hfin : ∃ x e, x = outS (bothR G s t) ∧ e = outE (bothR G s t) ∧ r = .int .i64 e ∧ Blk w' b3 #[S x] 9 := by
    rcases hor with ⟨rfl, x, h1, h2⟩ | ⟨e, rfl, h1, h2⟩
    · exact ⟨x, 0, by rw [h1]; rfl, by rw [h1]; rfl, rfl, h2.kp k67 (fun h => by omega)⟩
    · exact ⟨[], e, by rw [h1]; rfl, by rw [h1]; rfl, rfl, ((B3.kp (kpF hb5) (fun e => e)).kp h2 (fun e => e)).kp k67 (fun h => by omega)⟩
  obtain ⟨x, e, hx, he, rfl, B3'⟩ := hfin
  have hb0' : Below w.heap.size w w' := Below.put (Below.put (Below.via hb04 hb5) k56 (fun i h => by omega)) k67 (fun i h => by omega)
  have hbww : Below w'.heap.size w' w' := Below.refl _ _
  rw [← hx, ← he]
  (repeat (first | with_reducible refine W.seq ?_ | with_reducible refine Ops.nil ?_ | with_reducible refine W.region ?_ | refine z_p (kk := ?_) | refine z_d (kk := ?_)))
  refine Ops.st rfl rfl rfl rfl rfl rfl rfl B3' (by simp) (fun w7 hu => ?_)
  have B7 : Blk w7 b3 #[S x] 9 := by simpa using hu.blk
  (repeat (first | with_reducible refine Ops.nil ?_ | refine z_p (kk := ?_)))
  exact W.fretW (vs := [_, _]) ⟨_, _, rfl, ⟨b3, 0, _, 9, rfl, rfl, B7, rfl⟩, _, _, rfl, rfl, rfl⟩ ⟨rfl, Below.put hb0' hu.kp (fun i h => by omega)⟩
end Go.Proofs.YtcmjlmnfdncajaaGreatDoor
namespace Go.Proofs.YtcmjlmnfdncajaaGreatDoor
open Go Go.RowKit Go.Proofs.YtcmjlmnfdncajaaGreatDoor.VW Go.Proofs.YtcmjlmnfdncajaaGreatDoor.TW
attribute [local irreducible] W Ops OrdA VW.Ord OrdX Wi OpsI OrdF
/-- An ordinal, or the error that it is too large. -/
def fullG : Option Od → Except Int Od
  | some o => .ok o
  | none => .error 5
theorem addC_ok {a b o : Od} (ha : Small a) (hb : Small b) (za : szO a ≤ 60) (h : addC a b = some o) : szO o ≤ 60 ∧ mostO o ≤ 1000 := by
  cases b with
  | nil =>
    simp only [addC, Option.some.injEq] at h
    subst h
    exact ⟨za, small_most ha⟩
  | cons be bc br =>
    rw [addC_cons] at h
    unfold TW.chk at h
    split at h
    · simp at h
    · rename_i hb2
      simp only [Option.some.injEq] at h
      subst h
      have h1 := small_most ha
      have h2 := small_most hb
      have h3 := exM_le a
      have h4 := exM_le (.cons be bc br)
      have h5 := (add_sizes a (.cons be bc br)).2.2.2.2
      have h6 := most_eq (addO a (.cons be bc br))
      have h7 : ¬ (1000 < topO (addO a (.cons be bc br)) ∨ 60 < szO (addO a (.cons be bc br))) := fun q => hb2 (decide_eq_true q)
      omega
theorem sum_fun : FunO 73 (fun a b => fullG (addC a b)) := ⟨rfl, fun {S' w va vb a b} hS hA hB na nb sa sb za zb => by
  have h1 := small_most sa
  have h2 := small_most sb
  have h3 := most_top a
  have h4 := most_top b
  refine (sum_c hS hA hB (by omega) (by omega) (by omega) (by omega)).mono fun e w' h => ?_
  rcases h with ⟨v, he, o, h5, h6, h7⟩ | ⟨ch, he, h5, h6, h7⟩
  · have := addC_ok sa sb za h5
    exact .inl ⟨v, he, o, by rw [h5]; rfl, h6, h7, by omega, by omega⟩
  · exact .inr ⟨ch, he, 5, h5, by rw [h6]; rfl, h7⟩⟩
theorem Sum_c {w : World} {s t : List UInt8} (hs : s.length ≤ 4294967295) (ht : t.length ≤ 4294967295) (hT : Tbl w) :
    Calls Tryz.prog 21 #[S s, S t] w (Ret fun r w' => r = .tuple #[S (outS (bothR (fun a b => fullG (addC a b)) s t)), .int .i64 (outE (bothR (fun a b => fullG (addC a b)) s t))] ∧ Below w.heap.size w w') := by
  refine calls_W (vs := [_, _]) Tryz.func21 rfl (by kernel_rfl) rfl ?_
  (repeat (first | with_reducible refine W.seq ?_ | with_reducible refine Ops.nil ?_ | with_reducible refine W.region ?_ | refine z_p (kk := ?_)))
  refine Ops.call rfl rfl rfl rfl rfl (both_c sum_fun hs ht hT) (fun r w1 hR => ?_)
  obtain ⟨rfl, hb1⟩ := hR
  (repeat (first | with_reducible refine Ops.nil ?_ | refine z_p (kk := ?_)))
  exact W.fret rfl ⟨rfl, hb1⟩
def cmpR (s t : List UInt8) : Except Int Int := match rdA s with
  | none => .error 4
  | some a => match rdA t with
    | none => .error 4
    | some b => .ok (cmpO a b)
def outI : Except Int Int → Int
  | .ok x => x
  | .error _ => 0
theorem Compare1_c {w : World} {b0 b1 b3 : Nat} {s t : List UInt8} (hs : s.length ≤ 4294967295) (ht : t.length ≤ 4294967295)
    (B0 : Blk w b0 #[S s] 9) (B1 : Blk w b1 #[S t] 9) (B3 : Blk w b3 #[.int .i64 0] 3) :
    Calls Tryz.prog 70 #[.pointer (some ⟨b0, 0, none⟩), .pointer (some ⟨b1, 0, none⟩), .pointer (some ⟨b3, 0, none⟩)] w
      (RetP (fun _ w' => Kp (fun i => i = b3) w w' ∧ ∃ x, cmpR s t = .ok x ∧ Blk w' b3 #[.int .i64 x] 3) (fun ch w' => ∃ e, ch = trb e ∧ Kp (fun i => i = b3) w w' ∧ cmpR s t = .error e ∧ Kp (fun _ => False) w w')) := by
  refine calls_WP (vs := [_, _, _]) Tryz.func70 rfl (by kernel_rfl) rfl ?_
  (repeat (first | with_reducible refine W.seq ?_ | with_reducible refine W.region ?_ | refine z_d (kk := ?_)))
  refine Ops.callP rfl rfl rfl rfl rfl (readOrdinal_c hs) (fun va w1 hR => ?_) (fun ch w1 hR => ?_)
  rotate_left
  · obtain ⟨rfl, h1, hb1⟩ := hR
    exact ⟨4, rfl, (kpF hb1).mono (fun _ _ e => e.elim), by unfold cmpR; rw [h1], kpF hb1⟩
  obtain ⟨a, ha, hA, hb1⟩ := hR
  have B11 := B1.kp (kpF hb1) (fun e => e)
  have B31 := B3.kp (kpF hb1) (fun e => e)
  (repeat (first | with_reducible refine W.seq ?_ | with_reducible refine Ops.nil ?_ | with_reducible refine W.region ?_ | refine z_p (kk := ?_) | refine z_d (kk := ?_)))
  refine Ops.callP rfl rfl rfl rfl rfl (readOrdinal_c ht) (fun vb w2 hR => ?_) (fun ch w2 hR => ?_)
  rotate_left
  · obtain ⟨rfl, h1, hb2⟩ := hR
    exact ⟨4, rfl, (kpF (Below.via hb1 hb2)).mono (fun _ _ e => e.elim), by unfold cmpR; rw [ha, h1], kpF (Below.via hb1 hb2)⟩
  obtain ⟨b, hb, hB, hb2⟩ := hR
  have B32 := B31.kp (kpF hb2) (fun e => e)
  (repeat (first | with_reducible refine Ops.nil ?_ | with_reducible refine W.region ?_ | refine z_p (kk := ?_)))
  refine Ops.call rfl rfl rfl rfl rfl (compare_c _ (Nat.le_refl _) (hA.below hb2) hB) (fun r w3 hR => ?_)
  obtain ⟨rfl, hb3⟩ := hR
  have hb03 := Below.via (Below.via hb1 hb2) hb3
  have B33 := B32.kp (kpF hb3) (fun e => e)
  refine Ops.st rfl rfl rfl rfl rfl rfl rfl B33 (by simp) (fun w4 hu => ?_)
  (repeat (first | with_reducible refine Ops.nil ?_))
  refine W.fendP rfl ⟨((kpF hb03).trans hu.kp).mono (fun _ _ e => by rcases e with e | e; exact e.elim; exact e), cmpO a b, ?_, by simpa using hu.blk⟩
  unfold cmpR
  rw [ha, hb]
theorem Compare_c {w : World} {s t : List UInt8} (hs : s.length ≤ 4294967295) (ht : t.length ≤ 4294967295) :
    Calls Tryz.prog 20 #[S s, S t] w (Ret fun r w' => r = .tuple #[.int .i64 (outI (cmpR s t)), .int .i64 (outE (cmpR s t))] ∧ Below w.heap.size w w') := by
  refine calls_W (vs := [_, _]) Tryz.func20 rfl (by kernel_rfl) rfl ?_
  (repeat (first | with_reducible refine W.seq ?_ | with_reducible refine W.region ?_))
  refine Ops.box rfl rfl rfl rfl (fun w1 b0 hM1 => ?_)
  refine Ops.box rfl rfl rfl rfl (fun w2 b1 hM2 => ?_)
  refine Ops.alloc rfl rfl rfl rfl (fun w4 b3 hM4 => ?_)
  have hb24 := Mk.bel hM4
  have hb14 := Below.via (Mk.bel hM2) hb24
  have hb04 := Below.via (Mk.bel hM1) hb14
  have B0 : Blk w4 b0 #[S s] 9 := Blk.kp (w := w1) (hM1.at_) (kpF hb14) (fun e => e)
  have B1 : Blk w4 b1 #[S t] 9 := Blk.kp (w := w2) (hM2.at_) (kpF hb24) (fun e => e)
  have B3 : Blk w4 b3 #[.int .i64 0] 3 := hM4.at_
  have e3 := hM4.r_eq
  have l3 := B3.lt
  have hw03 := (Below.via (Mk.bel hM1) (Mk.bel hM2)).size
  (repeat (first | with_reducible refine W.seq ?_ | with_reducible refine Ops.nil ?_ | with_reducible refine W.region ?_ | refine z_p (kk := ?_)))
  refine Ops.call rfl rfl rfl rfl rfl (guard_c (F := 70) (caps := [.pointer (some ⟨b0, 0, none⟩), .pointer (some ⟨b1, 0, none⟩), .pointer (some ⟨b3, 0, none⟩)]) (T := fun i => i = b3) (N := fun _ w' => ∃ x, cmpR s t = .ok x ∧ Blk w' b3 #[.int .i64 x] 3) (E' := fun w1 w' e => cmpR s t = .error e ∧ Kp (fun _ => False) w1 w') rfl (fun i h => by omega) (fun w5 hlt hb5 => Compare1_c hs ht (B0.kp (kpF hb5) (fun e => e)) (B1.kp (kpF hb5) (fun e => e)) (B3.kp (kpF hb5) (fun e => e)))) (fun r w' hR => ?_)
  obtain ⟨w5, w6, hlt, hb5, k56, k67, hor⟩ := hR
  have hfin : ∃ x e, x = outI (cmpR s t) ∧ e = outE (cmpR s t) ∧ r = .int .i64 e ∧ Blk w' b3 #[.int .i64 x] 3 := by
    rcases hor with ⟨rfl, x, h1, h2⟩ | ⟨e, rfl, h1, h2⟩
    · exact ⟨x, 0, by rw [h1]; rfl, by rw [h1]; rfl, rfl, h2.kp k67 (fun h => by omega)⟩
    · exact ⟨0, e, by rw [h1]; rfl, by rw [h1]; rfl, rfl, ((B3.kp (kpF hb5) (fun e => e)).kp h2 (fun e => e)).kp k67 (fun h => by omega)⟩
  obtain ⟨x, e, hx, he, rfl, B3'⟩ := hfin
  have hb0' : Below w.heap.size w w' := Below.put (Below.put (Below.via hb04 hb5) k56 (fun i h => by omega)) k67 (fun i h => by omega)
  have hbww : Below w'.heap.size w' w' := Below.refl _ _
  rw [← hx, ← he]
  (repeat (first | with_reducible refine W.seq ?_ | with_reducible refine Ops.nil ?_ | with_reducible refine W.region ?_ | refine z_p (kk := ?_) | refine z_d (kk := ?_)))
  refine Ops.st rfl rfl rfl rfl rfl rfl rfl B3' (by simp) (fun w7 hu => ?_)
  have B7 : Blk w7 b3 #[.int .i64 x] 3 := by simpa using hu.blk
  (repeat (first | with_reducible refine Ops.nil ?_ | refine z_p (kk := ?_)))
  exact W.fretW (vs := [_, _]) ⟨_, _, rfl, ⟨b3, 0, _, 3, rfl, rfl, B7, rfl⟩, _, _, rfl, rfl, rfl⟩ ⟨rfl, Below.put hb0' hu.kp (fun i h => by omega)⟩
end Go.Proofs.YtcmjlmnfdncajaaGreatDoor
/- Plain: all parts but the last one. -/
namespace Go.Proofs.YtcmjlmnfdncajaaGreatDoor.TW
def initO : Od → Od
  | .nil => .nil
  | .cons _ _ .nil => .nil
  | .cons e c (.cons e' c' r') => .cons e c (initO (.cons e' c' r'))
def finE : Od → Od
  | .nil => .nil
  | .cons e _ .nil => e
  | .cons _ _ (.cons e' c' r') => finE (.cons e' c' r')
def finC : Od → Nat
  | .nil => 0
  | .cons _ c .nil => c
  | .cons _ _ (.cons e' c' r') => finC (.cons e' c' r')
theorem initO_len : ∀ a, lenO (initO a) = lenO a - 1
  | .nil => rfl
  | .cons e c .nil => rfl
  | .cons e c (.cons e' c' r') => by
    have := initO_len (.cons e' c' r')
    simp only [initO, lenO] at this ⊢
    omega
theorem step_init : ∀ {a : Od} (n : Nat), a ≠ .nil → stepO a n = appO (initO a) (cutS (finE a) (finC a) (tlS (kindO (finE a)) (stepO (finE a) n) n))
  | .nil, n, h => absurd rfl h
  | .cons e c .nil, n, _ => by rw [step_last]; rfl
  | .cons e c (.cons e' c' r'), n, _ => by
    rw [step_more (by simp), step_init n (by simp)]
    rfl
theorem finE_sz : ∀ {a : Od}, a ≠ .nil → szO (finE a) < szO a
  | .nil, h => absurd rfl h
  | .cons e c .nil, _ => by simp only [finE, szO]; omega
  | .cons e c (.cons e' c' r'), _ => by
    have := finE_sz (a := .cons e' c' r') (by simp)
    simp only [finE, szO] at this ⊢; omega
theorem step_sz : ∀ (a : Od) (n : Nat), szO (stepO a n) ≤ szO a * (szO a + 1)
  | .nil, n => by simp [stepO, szO]
  | .cons e c .nil, n => by
    have := step_sz e n
    rw [step_last]
    have key : szO (cutS e c (tlS (kindO e) (stepO e n) n)) ≤ 1 + szO e + (1 + szO (stepO e n)) := by
      unfold cutS tlS
      split <;> (try split) <;> (try split) <;> (try split) <;> simp only [szO] <;> omega
    generalize szO (stepO e n) = x at *
    have e1 : szO (.cons e c .nil) = 1 + szO e := by simp [szO]
    rw [e1]
    generalize szO e = t at *
    have e2 : (1 + t) * (1 + t + 1) = t * (t + 1) + 2 * t + 2 := by simp only [Nat.add_mul, Nat.mul_add]; omega
    omega
  | .cons e c (.cons e' c' r'), n => by
    have := step_sz (.cons e' c' r') n
    rw [step_more (by simp)]
    simp only [szO] at this ⊢
    generalize szO (stepO (.cons e' c' r') n) = x at *
    generalize 1 + szO e' + szO r' = u at *
    generalize szO e = t at *
    have e2 : (1 + t + u) * (1 + t + u + 1) = u * (u + 1) + (1 + t) * (1 + t + 1 + u) + u * (1 + t) := by simp only [Nat.add_mul, Nat.mul_add]; omega
    have e3 : 1 + t ≤ (1 + t) * (1 + t + 1 + u) := Nat.le_mul_of_pos_right _ (by omega)
    omega
end Go.Proofs.YtcmjlmnfdncajaaGreatDoor.TW
namespace Go.Proofs.YtcmjlmnfdncajaaGreatDoor
open Go Go.RowKit Go.Proofs.YtcmjlmnfdncajaaGreatDoor.VW Go.Proofs.YtcmjlmnfdncajaaGreatDoor.TW
attribute [local irreducible] W Ops OrdA VW.Ord OrdX Wi OpsI OrdF
theorem finE_at : ∀ {a : Od}, a ≠ .nil → nthE a (lenO a - 1) = finE a ∧ nthC a (lenO a - 1) = finC a
  | .nil, h => absurd rfl h
  | .cons e c .nil, _ => ⟨rfl, rfl⟩
  | .cons e c (.cons e' c' r'), _ => by
    have := finE_at (a := .cons e' c' r') (by simp)
    simpa [lenO, nthE, nthC, finE, finC] using this
theorem OA_init {S : Nat → Prop} {w : World} : ∀ {o l}, OA S w o l → OA S w (initO o) (l.take (l.length - 1))
  | .nil, l, h => by
    have : l = [] := h
    subst this
    rfl
  | .cons e c .nil, l, ⟨v, l', le, h1, h3, h4, h5⟩ => by
    have : l' = [] := h5
    subst this
    subst h1
    rfl
  | .cons e c (.cons e' c' r'), l, ⟨v, l', le, h1, h3, h4, h5⟩ => by
    subst h1
    have hl := h5.len
    have ih := OA_init h5
    have e1 : ((v, c) :: l').take (((v, c) :: l').length - 1) = (v, c) :: l'.take (l'.length - 1) := by
      simp only [lenO] at hl
      rw [List.length_cons, show l'.length + 1 - 1 = (l'.length - 1) + 1 by omega, List.take_succ_cons]
    rw [e1]
    exact ⟨v, _, le, rfl, h3, h4, ih⟩
theorem clone_c {S' : Nat → Prop} {w : World} {v : Value} {l : List (Value × Nat)} (hR : R2 S' w v l) (h1 : ∀ p, p ∈ l → p.1.oneCell' = true) (hb : l.length ≤ 1000000) : Calls Tryz.prog 111 #[v] w (Ret fun r w' => PO w.heap.size w' r l ∧ Below w.heap.size w w') := by
  have hR0 := hR
  obtain ⟨A, c, rfl, h0, hc⟩ := hR
  refine calls_W (vs := [_]) Tryz.func111 rfl (by kernel_rfl) rfl ?_
  (repeat (first | with_reducible refine W.seq ?_ | with_reducible refine Ops.nil ?_ | with_reducible refine W.region ?_ | refine z_p (kk := ?_)))
  refine z_ev (EV.nilE rfl rfl rfl rfl) (kk := ?_)
  cases A with
  | none =>
    have : l = [] := by
      cases l with
      | nil => rfl
      | cons a r => obtain ⟨a, h, _⟩ := hc (by simp); cases h
    subst this
    (repeat (first | with_reducible refine Ops.nil ?_))
    refine W.condT rfl (by first | rfl | assumption | (simp only [bnf] <;> omega) | (simp only [*, bnf]; done) | fail) ?_
    (repeat (first | with_reducible refine W.seq ?_ | with_reducible refine Ops.nil ?_ | with_reducible refine W.region ?_ | refine z_p (kk := ?_)))
    exact W.fret rfl ⟨PO.nil (Nat.le_refl _), Below.refl _ _⟩
  | some a =>
    (repeat (first | with_reducible refine Ops.nil ?_))
    refine W.condF rfl (by first | rfl | assumption | (simp only [bnf] <;> omega) | (simp only [*, bnf]; done) | fail) ?_
    (repeat (first | with_reducible refine W.seq ?_ | with_reducible refine W.region ?_ | with_reducible refine W.skip ?_))
    refine Ops.bs0 rfl rfl rfl rfl rfl (fun w1 r hM1 => ?_)
    have hb1 := Mk.bel hM1
    have s1 := hM1.size
    have e1 := hM1.r_eq
    have hO1 : OP 119 pA pB w w1 (.slice (some ⟨r, 0, none⟩) 0 0) [] := ⟨hb1, own_zero hM1, fun i hi => by have := own_r hi; omega⟩
    (repeat (first | refine z_p (kk := ?_)))
    refine Ops.appP rfl rfl rfl rfl rfl rfl rfl rfl rfl hO1 (hR0.below hb1) h1 (by simp only [List.length_nil]; omega) (fun v2 w2 hO2 k2 hn2 => ?_)
    have hb2 := hO2.bel
    (repeat (first | with_reducible refine Ops.nil ?_ | refine z_p (kk := ?_)))
    refine W.fret rfl ⟨⟨by have := hb2.size; omega, tr_bel (by have := hb2.size; omega), hO2.own, fun i hi => ?_⟩, hb2⟩
    have := hO2.ge i hi
    rw [tr_size (by have := hb2.size; omega)]
    exact this
theorem po_OM {S' : Nat → Prop} {N : Nat} {w : World} {v : Value} {o : Od} {l : List (Value × Nat)} (hP : PO N w v l) (hS : ∀ i, S' i → i < N) (hA : OA S' w o l) (hl : lenO o ≤ 140737488355328) : OM S' w v o :=
  ⟨l, po_R2 hP (by rw [hA.len]; exact hl) (fun j hj h => by have := po_ge hP j hj; have := hS j h; omega), hA⟩
set_option maxHeartbeats 8000000 in
theorem step_c : ∀ (n : Nat) {S' : Nat → Prop} {w : World} {va : Value} {a : Od} {k : Nat}, szO a ≤ n → n ≤ 100000 → a ≠ .nil → k ≤ 100000 → mostO a ≤ 10000000 → (∀ i, S' i → i < w.heap.size) → OM S' w va a →
    Calls Tryz.prog 77 #[va, .int .i64 (k : Int)] w (Ret fun r w' => OM S' w' r (stepO a k) ∧ Below w.heap.size w w') := by
  intro n
  induction n using Nat.strongRecOn with
  | _ n ih =>
  intro S' w va a k hn hbig hne hk hmo hS hA
  obtain ⟨la, hRa, hAa⟩ := hA
  have hla := hAa.len
  have hlz := len_le_sz a
  have hl0 : 0 < lenO a := Nat.pos_of_ne_zero (fun h => hne (lenO_zero.1 h))
  obtain ⟨f1, f2⟩ := finE_at hne
  have hfs := finE_sz hne
  have hst := step_init k hne
  obtain ⟨a2, aM⟩ := hAa.at_ (i := lenO a - 1) (by omega)
  have hmn := nth_most (o := a) (i := lenO a - 1) (by omega)
  rw [f1, f2] at hmn
  rw [f1] at aM
  rw [f2] at a2
  have ha1 := aM.one
  have hcap : la.length ≤ la.length := Nat.le_refl _
  obtain ⟨Aa, ca, he, hcc, _⟩ := id hRa
  subst he
  have hil := initO_len a
  refine calls_W (vs := [_, _]) Tryz.func77 rfl (by kernel_rfl) rfl ?_
  (repeat (first | with_reducible refine W.seq ?_ | with_reducible refine Ops.nil ?_ | with_reducible refine W.region ?_ | refine z_p (kk := ?_) | refine z_a (kk := ?_) | refine z_l (kk := ?_)))
  rw [show ((la.length : Nat) : Int) - 1 = ((lenO a - 1 : Nat) : Int) by omega]
  (repeat (first | refine z_R2 (kk := fun _ => ?_)))
  rw [a2]
  generalize hva : (la.getD (lenO a - 1) default).1 = ve at *
  refine Ops.alloc rfl rfl rfl rfl (fun w1 b5 hM1 => ?_)
  refine Ops.stN (vs := [ve, .int .i64 (finC a : Nat)]) (cs := [.slice none 0 0, .int .i64 0]) rfl rfl rfl rfl rfl rfl (by intro v hv; simp at hv; rcases hv with rfl | rfl; exact ha1; rfl) rfl hM1.at_ (fun w2 hu2 => ?_)
  have B2 : Blk w2 b5 #[ve, .int .i64 (finC a : Nat)] 119 := hu2.blk
  have e1 := hM1.r_eq
  have hb02 : Below w.heap.size w w2 := Below.put (Mk.bel hM1) hu2.kp (fun i e => by omega)
  (repeat (first | with_reducible refine W.seq ?_ | with_reducible refine Ops.nil ?_ | with_reducible refine W.region ?_ | refine z_p (kk := ?_) | refine z_a (kk := ?_) | refine z_l (kk := ?_)))
  rw [show ((la.length : Nat) : Int) - 1 = ((lenO a - 1 : Nat) : Int) by omega]
  refine z_ev (EV.slH rfl rfl rfl rfl rfl (by omega) (by omega)) (kk := ?_)
  rw [Int.toNat_natCast]
  have hRt := hRa.take (h := lenO a - 1) (by omega)
  have hOAi := OA_init hAa
  rw [hla] at hOAi
  have hti : (la.take (lenO a - 1)).length = lenO a - 1 := by rw [List.length_take]; omega
  have hti2 := hOAi.len
  refine Ops.call rfl rfl rfl rfl rfl (clone_c (hRt.below hb02) (OA_one hOAi) (by omega)) (fun v6 w3 hR => ?_)
  obtain ⟨hP3, hb23⟩ := hR
  have hP3' : PO w.heap.size w3 v6 (la.take (lenO a - 1)) := ⟨by have := (Below.via hb02 hb23).size; omega, tr_bel (by have := (Below.via hb02 hb23).size; omega), hP3.2.own, fun i hi => by
    have := po_ge hP3 i hi
    rw [tr_size (by have := (Below.via hb02 hb23).size; omega)]
    have := hb02.size
    omega⟩
  have hb03 := Below.via hb02 hb23
  have B3 := B2.kp (kpF hb23) (fun e => e)
  have hge6 : ∀ i, v6.ownBlock = some i → w2.heap.size ≤ i := po_ge hP3
  have hb5 := B2.lt
  clear hP3 B2 hu2 hM1
  refine z_p (kk := ?_)
  refine Ops.nil ?_
  refine W.seq ?_
  refine W.cut (fun ρ w4 => ∃ (v : Value) (l : List (Value × Nat)) (o : Od), ρ = [(1, .int .i64 (k : Int)), (5, .pointer (some ⟨b5, 0, none⟩)), (6, v)] ∧ PO w.heap.size w4 v l ∧ OA S' w o l ∧ (∀ i, v.ownBlock = some i → w2.heap.size ≤ i) ∧ Below w.heap.size w w4 ∧ Blk w4 b5 #[ve, .int .i64 (finC a : Nat)] 119 ∧ (∀ t, appO o t = appO (initO a) (cutS (finE a) (finC a) t)) ∧ lenO o ≤ lenO a) ?_ ?_
  · (repeat (first | with_reducible refine W.seq ?_ | with_reducible refine Ops.nil ?_ | with_reducible refine W.region ?_ | refine z_p (kk := ?_) | refine z_f (kk := ?_) | refine z_d (kk := ?_)))
    by_cases hc : 1 < finC a
    · refine W.condT rfl (by first | rfl | assumption | (simp only [bnf] <;> omega) | (simp only [*, bnf]; done) | fail) ?_
      (repeat (first | with_reducible refine W.region ?_ | refine z_p (kk := ?_) | refine z_a (kk := ?_) | refine z_f (kk := ?_) | refine z_d (kk := ?_)))
      rw [show ((finC a : Nat) : Int) - 1 = ((finC a - 1 : Nat) : Int) by omega]
      refine Ops.bld2 rfl rfl rfl rfl rfl rfl rfl ha1 rfl ?_
      refine Ops.pushP (fa := pA) (fb := pB) (z := (ve, finC a - 1)) rfl rfl rfl rfl rfl rfl rfl rfl rfl rfl rfl (fun _ => rfl) ha1 rfl hP3'.2 (by omega) (fun lv' p w4 hO4 k4 hn4 => ?_)
      have hP4 := po_put hP3' (tr_size hP3'.1) hO4 k4.size
      have hls : lenO (snocO (initO a) (finE a) (finC a - 1)) = lenO (initO a) + 1 := by unfold snocO; rw [lenO_app]; rfl
      (repeat (first | with_reducible refine Ops.nil ?_ | refine z_p (kk := ?_)))
      exact W.endl ⟨_, ⟨lv', _, snocO (initO a) (finE a) (finC a - 1), rfl, hP4, OA_snoc aM hOAi, fun i hi => by rcases hn4 i hi with q | q; exact hge6 i q; have := hb23.size; omega, Below.put hb03 k4 (fun i hi => po_ge hP3' i hi), B3.kp k4 (fun q => by have := hge6 _ q; omega), fun t => by rw [appO_snoc]; unfold cutS; rw [if_pos hc], by omega⟩, (by repeat (first | exact trivial | refine And.intro rfl ?_))⟩
    · refine W.condF rfl (by first | rfl | assumption | (simp only [bnf] <;> omega) | (simp only [*, bnf]; done) | fail) ?_
      (repeat (first | with_reducible refine W.skip ?_))
      exact W.endl ⟨_, ⟨v6, _, initO a, rfl, hP3', hOAi, hge6, hb03, B3, fun t => by unfold cutS; rw [if_neg hc], by omega⟩, (by repeat (first | exact trivial | refine And.intro rfl ?_))⟩
  · clear hP3' hb23 B3 hge6 hb03 hOAi hti hti2
    rintro ρ w4 ⟨v, l, o, rfl, hP4, hOA, hge, hb04, B4, heq, hlo⟩
    have hlen := hOA.len
    have hP4s := hP4.1
    have hb44 : Below w4.heap.size w4 w4 := Below.refl _ _
    rw [← heq] at hst
    refine W.seq ?_
    refine W.cut (fun ρ w6 => ∃ (v : Value) (l : List (Value × Nat)) (o : Od), ρ = [(6, v)] ∧ PO w.heap.size w6 v l ∧ OA S' w6 o l ∧ o = stepO a k ∧ Below w.heap.size w w6 ∧ lenO o ≤ 1000000) ?_ ?_
    · (repeat (first | with_reducible refine W.seq ?_ | with_reducible refine W.region ?_ | refine z_f (kk := ?_) | refine z_d (kk := ?_)))
      refine Ops.callS rfl rfl rfl rfl rfl (kind_c (aM.below hb04)) ?_
      (repeat (first | with_reducible refine W.seq ?_ | with_reducible refine Ops.nil ?_ | with_reducible refine W.region ?_ | refine z_p (kk := ?_) | with_reducible refine W.block ?_))
      have hkl := kind_lt (finE a)
      -- the step of the exponent
      have hnn : kindO (finE a) ≠ 0 → finE a ≠ .nil := fun h e => h (kind_zero.2 e)
      have hstep : kindO (finE a) ≠ 0 → Calls Tryz.prog 77 #[ve, .int .i64 (k : Int)] w4 (Ret fun r w' => OM (fun i => S' i ∨ v.ownBlock = some i) w' r (stepO (finE a) k) ∧ Below w4.heap.size w4 w') := fun h =>
        ih _ (show szO (finE a) < n by omega) (Nat.le_refl _) (by omega) (hnn h) hk (by omega) (fun i hi => by
          rcases hi with hi | hi
          · have := hS i hi; omega
          · exact (hP4.2.own.lt i hi).2) ((aM.more (S' := fun i => S' i ∨ v.ownBlock = some i) (fun i hi => by
          rcases hi with hi | hi
          · exact .inl hi
          · exact .inr (po_ge hP4 i hi))).below hb04)
      by_cases h1 : kindO (finE a) = 1
      · rw [h1] at hst ⊢
        have hcs := hstep (by omega)
        refine W.condT rfl (by first | rfl | assumption | (simp only [bnf] <;> omega) | (simp only [*, bnf]; done) | fail) ?_
        (repeat (first | with_reducible refine W.seq ?_ | with_reducible refine Ops.nil ?_ | with_reducible refine W.region ?_ | refine z_p (kk := ?_)))
        by_cases hk0 : 0 < k
        · have htl : tlS 1 (stepO (finE a) k) k = .cons (stepO (finE a) k) k .nil := by simp [tlS, hk0]
          rw [htl] at hst
          refine W.condT rfl (by first | rfl | assumption | (simp only [bnf] <;> omega) | (simp only [*, bnf]; done) | fail) ?_
          (repeat (first | with_reducible refine W.region ?_ | refine z_p (kk := ?_) | refine z_f (kk := ?_) | refine z_d (kk := ?_)))
          refine Ops.call rfl rfl rfl rfl rfl hcs (fun vs w5 hR => ?_)
          obtain ⟨hM5, hb45⟩ := hR
          have hvs := hM5.one
          have hP5 := po_kp hP4 (kpF hb45) (fun _ _ e => e)
          have hb05 := Below.via hb04 hb45
          (repeat (first | refine z_p (kk := ?_)))
          refine Ops.bld2 rfl rfl rfl rfl rfl rfl rfl hvs rfl ?_
          refine Ops.pushP (fa := pA) (fb := pB) (z := (vs, k)) rfl rfl rfl rfl rfl rfl rfl rfl rfl rfl rfl (fun _ => rfl) hvs rfl hP5.2 (by omega) (fun lv' p w6 hO6 k6 hn6 => ?_)
          have hP6 := po_put hP5 (tr_size hP5.1) hO6 k6.size
          have hb06 := Below.put hb05 k6 (fun i hi => po_ge hP5 i hi)
          have hM6 := (hM5.kp k6 (fun i hi => .inr hi)).more (S' := S') (fun i hi => .inl (.inl hi))
          have hls : lenO (snocO o (stepO (finE a) k) k) = lenO o + 1 := by unfold snocO; rw [lenO_app]; rfl
          (repeat (first | with_reducible refine Ops.nil ?_ | refine z_p (kk := ?_) | with_reducible refine W.endb ?_))
          exact W.endl ⟨_, ⟨lv', _, snocO o (stepO (finE a) k) k, rfl, hP6, OA_snoc hM6 (hOA.kp (kpF hb06) (fun _ e => e.elim)), hst.symm, hb06, by omega⟩, (by repeat (first | exact trivial | refine And.intro rfl ?_))⟩
        · have htl : tlS 1 (stepO (finE a) k) k = .nil := by simp [tlS, hk0]
          rw [htl, appO_nil] at hst
          refine W.condF rfl (by first | rfl | assumption | (simp only [bnf] <;> omega) | (simp only [*, bnf]; done) | fail) ?_
          (repeat (first | with_reducible refine W.skip ?_ | with_reducible refine W.endb ?_))
          exact W.endl ⟨_, ⟨v, l, o, rfl, hP4, hOA.kp (kpF hb04) (fun _ e => e.elim), hst.symm, hb04, by omega⟩, (by repeat (first | exact trivial | refine And.intro rfl ?_))⟩
      · by_cases h2 : kindO (finE a) = 2
        · rw [h2] at hst ⊢
          have hcs := hstep (by omega)
          have htl : tlS 2 (stepO (finE a) k) k = .cons (stepO (finE a) k) 1 .nil := by simp [tlS]
          rw [htl] at hst
          refine W.condF rfl (by first | rfl | assumption | (simp only [bnf] <;> omega) | (simp only [*, bnf]; done) | fail) ?_
          (repeat (first | with_reducible refine W.seq ?_ | with_reducible refine Ops.nil ?_ | with_reducible refine W.region ?_ | refine z_p (kk := ?_)))
          refine W.condT rfl (by first | rfl | assumption | (simp only [bnf] <;> omega) | (simp only [*, bnf]; done) | fail) ?_
          (repeat (first | with_reducible refine W.region ?_ | refine z_p (kk := ?_) | refine z_f (kk := ?_) | refine z_d (kk := ?_)))
          refine Ops.call rfl rfl rfl rfl rfl hcs (fun vs w5 hR => ?_)
          obtain ⟨hM5, hb45⟩ := hR
          have hvs := hM5.one
          have hP5 := po_kp hP4 (kpF hb45) (fun _ _ e => e)
          have hb05 := Below.via hb04 hb45
          skip
          refine Ops.bld2 rfl rfl rfl rfl rfl rfl rfl hvs rfl ?_
          refine Ops.pushP (fa := pA) (fb := pB) (z := (vs, 1)) rfl rfl rfl rfl rfl rfl rfl rfl rfl rfl rfl (fun _ => rfl) hvs rfl hP5.2 (by omega) (fun lv' p w6 hO6 k6 hn6 => ?_)
          have hP6 := po_put hP5 (tr_size hP5.1) hO6 k6.size
          have hb06 := Below.put hb05 k6 (fun i hi => po_ge hP5 i hi)
          have hM6 := (hM5.kp k6 (fun i hi => .inr hi)).more (S' := S') (fun i hi => .inl (.inl hi))
          have hls : lenO (snocO o (stepO (finE a) k) 1) = lenO o + 1 := by unfold snocO; rw [lenO_app]; rfl
          (repeat (first | with_reducible refine Ops.nil ?_ | refine z_p (kk := ?_) | with_reducible refine W.endb ?_))
          exact W.endl ⟨_, ⟨lv', _, snocO o (stepO (finE a) k) 1, rfl, hP6, OA_snoc hM6 (hOA.kp (kpF hb06) (fun _ e => e.elim)), hst.symm, hb06, by omega⟩, (by repeat (first | exact trivial | refine And.intro rfl ?_))⟩
        · have h0 : kindO (finE a) = 0 := by omega
          rw [h0] at hst ⊢
          have htl : tlS 0 (stepO (finE a) k) k = .nil := by simp [tlS]
          rw [htl, appO_nil] at hst
          refine W.condF rfl (by first | rfl | assumption | (simp only [bnf] <;> omega) | (simp only [*, bnf]; done) | fail) ?_
          (repeat (first | with_reducible refine W.seq ?_ | with_reducible refine Ops.nil ?_ | with_reducible refine W.region ?_ | refine z_p (kk := ?_)))
          refine W.condF rfl (by first | rfl | assumption | (simp only [bnf] <;> omega) | (simp only [*, bnf]; done) | fail) ?_
          (repeat (first | with_reducible refine W.skip ?_ | with_reducible refine W.endb ?_))
          exact W.endl ⟨_, ⟨v, l, o, rfl, hP4, hOA.kp (kpF hb04) (fun _ e => e.elim), hst.symm, hb04, by omega⟩, (by repeat (first | exact trivial | refine And.intro rfl ?_))⟩
    · rintro ρ w6 ⟨v7, l7, o7, rfl, hP7, hOA7, rfl, hb06, hlo7⟩
      (repeat (first | with_reducible refine W.seq ?_ | with_reducible refine Ops.nil ?_ | with_reducible refine W.region ?_ | refine z_p (kk := ?_)))
      exact W.fret rfl ⟨po_OM hP7 hS hOA7 (by omega), hb06⟩
end Go.Proofs.YtcmjlmnfdncajaaGreatDoor
