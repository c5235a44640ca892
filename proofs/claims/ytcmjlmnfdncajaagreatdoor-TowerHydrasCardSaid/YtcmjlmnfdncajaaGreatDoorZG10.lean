/- A part of the walk: what this seat's statements share. -/
import Derived.Test.YtcmjlmnfdncajaaGreatDoorZG9
import Derived.Test.YtcmjlmnfdncajaaGreatDoorZG2
import Derived.Test.YtcmjlmnfdncajaaGreatDoorZG6
import Derived.OpenShut
import Derived.ShutString
import Derived.ChangeMaps5
set_option linter.unusedVariables false
set_option linter.unusedSimpArgs false
set_option linter.unusedSectionVars false
namespace Go.Proofs.YtcmjlmnfdncajaaGreatDoor
open Go Go.RowKit Go.Proofs.YtcmjlmnfdncajaaGreatDoor.VW Go.Proofs.YtcmjlmnfdncajaaGreatDoor.TW
attribute [local irreducible] W Ops OrdA VW.Ord OrdX Wi OpsI OrdF
/-- A hydra in memory, outside the blocks of S. -/
def HA (S : Nat → Prop) (w : World) : Fo → List HS → Prop
  | .nil, l => l = []
  | .cons k r, l => ∃ v l' lk, l = v :: l' ∧ R1 S w (eH v) lk ∧ HA S w k lk ∧ HA S w r l'
def HM (S : Nat → Prop) (w : World) (v : Value) (f : Fo) : Prop := ∃ l, R1 S w v l ∧ HA S w f l
theorem HA.len {S : Nat → Prop} {w : World} : ∀ {f l}, HA S w f l → l.length = lenF f
  | .nil, l, h => by
    have : l = [] := h
    subst this
    rfl
  | .cons k r, l, ⟨v, l', lk, h1, h2, h3, h4⟩ => by
    subst h1
    simp only [List.length_cons, lenF, HA.len h4]
theorem HA.kp {S T : Nat → Prop} {w w' : World} (k : Kp T w w') (hT : ∀ i, T i → S i) : ∀ {f l}, HA S w f l → HA S w' f l
  | .nil, _, h => h
  | .cons c r, l, ⟨v, l', lk, h1, h2, h3, h4⟩ => ⟨v, l', lk, h1, h2.kp k hT, HA.kp k hT h3, HA.kp k hT h4⟩
theorem HA.more {S S' : Nat → Prop} {w : World} (hS : ∀ i, S' i → S i ∨ w.heap.size ≤ i) : ∀ {f l}, HA S w f l → HA S' w f l
  | .nil, _, h => h
  | .cons c r, l, ⟨v, l', lk, h1, h2, h3, h4⟩ => ⟨v, l', lk, h1, h2.more hS, HA.more hS h3, HA.more hS h4⟩
theorem HM.kp {S T : Nat → Prop} {w w' : World} {v : Value} {f : Fo} (h : HM S w v f) (k : Kp T w w') (hT : ∀ i, T i → S i) : HM S w' v f := ⟨_, h.choose_spec.1.kp k hT, h.choose_spec.2.kp k hT⟩
theorem HM.below {S : Nat → Prop} {w w' : World} {v : Value} {f : Fo} (h : HM S w v f) (k : Below w.heap.size w w') : HM S w' v f := h.kp (Kp.of_below (S := fun _ => False) k) (fun _ e => e.elim)
theorem HM.more {S S' : Nat → Prop} {w : World} {v : Value} {f : Fo} (h : HM S w v f) (hS : ∀ i, S' i → S i ∨ w.heap.size ≤ i) : HM S' w v f := ⟨_, h.choose_spec.1.more hS, h.choose_spec.2.more hS⟩
theorem HM.nil {S : Nat → Prop} {w : World} {A : Option Addr} {c : Nat} : HM S w (.slice A 0 c) .nil := ⟨[], R1.nil, rfl⟩
theorem HM.sh {S : Nat → Prop} {w : World} {v : Value} {f : Fo} (h : HM S w v f) : ∃ A c, v = .slice A (lenF f) c := by
  obtain ⟨l, hR, hA⟩ := h
  obtain ⟨A, c, rfl⟩ := hR.sh
  exact ⟨A, c, by rw [hA.len]⟩
def nthF : Fo → Nat → Fo
  | .nil, _ => .nil
  | .cons k _, 0 => k
  | .cons _ r, i + 1 => nthF r i
def dropF : Fo → Nat → Fo
  | .nil, _ => .nil
  | .cons k r, 0 => .cons k r
  | .cons _ r, i + 1 => dropF r i
theorem HA.at_ {S : Nat → Prop} {w : World} : ∀ {f l} {i : Nat}, HA S w f l → i < lenF f → HM S w (eH (l.getD i default)) (nthF f i)
  | .nil, _, i, _, h => by simp [lenF] at h
  | .cons k r, l, 0, ⟨v, l', lk, h1, h2, h3, h4⟩, _ => by subst h1; exact ⟨lk, h2, h3⟩
  | .cons k r, l, i + 1, ⟨v, l', lk, h1, h2, h3, h4⟩, h => by
    subst h1
    have := HA.at_ (i := i) h4 (by simp [lenF] at h; omega)
    simpa [nthF] using this
theorem dropF_zero : ∀ f, dropF f 0 = f
  | .nil => rfl
  | .cons k r => rfl
theorem dropF_cons : ∀ {f : Fo} {i : Nat}, i < lenF f → dropF f i = .cons (nthF f i) (dropF f (i + 1))
  | .nil, i, h => by simp [lenF] at h
  | .cons k r, 0, _ => by simp [dropF, nthF, dropF_zero]
  | .cons k r, i + 1, h => by
    have := dropF_cons (f := r) (i := i) (by simp [lenF] at h; omega)
    simp only [dropF, nthF]
    exact this
theorem dropF_len : ∀ f, dropF f (lenF f) = .nil
  | .nil => rfl
  | .cons k r => by simp only [lenF, dropF, dropF_len r]
theorem nthF_sz : ∀ {f : Fo} {i : Nat}, i < lenF f → szF (nthF f i) < szF f
  | .nil, i, h => by simp [lenF] at h
  | .cons k r, 0, _ => by simp only [nthF, szF]; omega
  | .cons k r, i + 1, h => by
    have := nthF_sz (f := r) (i := i) (by simp [lenF] at h; omega)
    simp only [nthF, szF]; omega
theorem HA_snoc {S : Nat → Prop} {w : World} {v : HS} {k : Fo} (hv : HM S w (eH v) k) : ∀ {f l}, HA S w f l → HA S w (apF f (.cons k .nil)) (l ++ [v])
  | .nil, l, h => by
    have : l = [] := h
    subst this
    obtain ⟨lk, h1, h2⟩ := hv
    exact ⟨v, [], lk, rfl, h1, h2, rfl⟩
  | .cons k' r, l, ⟨v', l', lk, h1, h2, h3, h4⟩ => by
    subst h1
    exact ⟨v', l' ++ [v], lk, rfl, h2, h3, HA_snoc hv h4⟩
theorem so_pushH {N : Nat} {w2 w3 : World} {ov lv' : Value} (k3 : Kp (fun i => ov.ownBlock = some i) w2 w3) (hn3 : ∀ i, lv'.ownBlock = some i → ov.ownBlock = some i ∨ w2.heap.size ≤ i) :
    (∀ {o l}, HA (SO N ov) w2 o l → HA (SO N lv') w3 o l) ∧ (∀ {v o}, HM (SO N ov) w2 v o → HM (SO N lv') w3 v o) := by
  have hmo : ∀ i, (SO N ov i ∨ lv'.ownBlock = some i) → SO N ov i ∨ w2.heap.size ≤ i := fun i h => by
    rcases h with h | h
    · exact .inl h
    · rcases hn3 i h with q | q
      · exact .inl (.inr q)
      · exact .inr q
  exact ⟨fun h => ((HA.more hmo h).kp k3 (fun i e => .inl (.inr e))).more (S' := SO N lv') (fun i h => .inl (by rcases h with h | h; exact .inl (.inl h); exact .inr h)),
    fun h => ((HM.more h hmo).kp k3 (fun i e => .inl (.inr e))).more (S' := SO N lv') (fun i h => .inl (by rcases h with h | h; exact .inl (.inl h); exact .inr h))⟩
theorem LO.r1 {S : Nat → Prop} {e N : Nat} {w : World} {v : Value} {l : List HS} (h : LO e eH N w v l) (hN : N ≤ w.heap.size) (hl : l.length ≤ 140737488355328) (hS : ∀ i, S i → i < N) : R1 S w v l :=
  OI.r1 (h.base hN) hl (fun i hi hs => by have := h.ge i hi; have := hS i hs; omega)
set_option maxHeartbeats 8000000 in
theorem hydra_c : ∀ (n : Nat) {w : World} {b k : Nat} {s : List UInt8}, s.length ≤ n → s.length ≤ 4294967295 → k ≤ 200 → Rd w b s k →
    Calls Tryz.prog 112 #[.pointer (some ⟨b, 0, none⟩)] w (RetP
      (fun r w' => ∃ f t, rdHy n s = some (f, t) ∧ k + 1 + szF f ≤ 200 ∧ HM (fun i => i < w.heap.size) w' r f ∧ Rd w' b t (k + 1 + szF f) ∧ Kp (fun i => i = b) w w')
      (fun ch w' => ch = trb 4 ∧ (∀ f t, rdHy n s = some (f, t) → 200 < k + 1 + szF f) ∧ Kp (fun i => i = b) w w')) := by
  intro n
  induction n using Nat.strongRecOn with
  | _ n ih =>
  intro w b k s hn hs hk hB
  have hb := hB.lt
  refine calls_WP (vs := [_]) Tryz.func112 rfl (by kernel_rfl) rfl ?_
  (repeat (first | with_reducible refine W.seq ?_ | with_reducible refine Ops.nil ?_ | with_reducible refine W.region ?_ | refine z_p (kk := ?_) | refine z_a (kk := ?_) | refine z_f (kk := ?_) | refine z_d (kk := ?_)))
  refine Ops.st rfl rfl rfl rfl rfl rfl rfl hB (by simp) (fun w1 hu1 => ?_)
  have hB1 : Rd w1 b s (k + 1) := by
    have := hu1.blk
    rw [show (((k : Nat) : Int) + 1) = ((k + 1 : Nat) : Int) by omega] at this
    exact this
  have k01 := hu1.kp
  (repeat (first | with_reducible refine W.seq ?_ | with_reducible refine Ops.nil ?_ | with_reducible refine W.region ?_ | refine z_p (kk := ?_) | refine z_f (kk := ?_) | refine z_d (kk := ?_)))
  refine Ops.callP rfl rfl rfl rfl rfl (demand_c _ _ _) (fun r w2 hR => ?_) (fun ch w2 hR => ?_)
  rotate_left
  · obtain ⟨hb1, rfl, rfl⟩ := hR
    have := of_decide_eq_false hb1
    exact ⟨rfl, fun f t h => by omega, k01⟩
  obtain ⟨hk1, hw⟩ := hR
  subst w2
  have hk200 := of_decide_eq_true hk1
  clear hk1
  (repeat (first | with_reducible refine W.seq ?_ | with_reducible refine Ops.nil ?_ | with_reducible refine W.region ?_ | refine z_p (kk := ?_)))
  refine Ops.callP rfl rfl rfl rfl rfl (want_c (p := [40]) (by omega) hB1) (fun r w2 hR => ?_) (fun ch w2 hR => ?_)
  rotate_left
  · obtain ⟨rfl, hp1, k12⟩ := hR
    exact ⟨rfl, fun f t h => by unfold rdHy at h; rw [hp1] at h; simp at h, kpb k01 k12⟩
  obtain ⟨t0, hp1, hB2, k12⟩ := hR
  have k02 := kpb k01 k12
  have hl1 := pre_len hp1
  simp only [List.length_cons, List.length_nil] at hl1
  have hrd : rdHy n s = match rdFo n t0 with
      | none => none
      | some (k, u) => (pre [41] u).map (fun v => (k, v)) := by
    unfold rdHy
    rw [hp1]
    rfl
  clear hB hB1 k01 k12 hp1
  have hw02 := k02.size
  (repeat (first | with_reducible refine W.seq ?_ | with_reducible refine Ops.nil ?_ | with_reducible refine W.region ?_ | refine z_p (kk := ?_) | with_reducible refine W.block ?_))
  refine W.loop (fun m ρ w3 => ∃ (acc : Fo) (l : List HS) (ov : Value) (s1 : List UInt8) (m1 : Nat), m = s1.length ∧ ρ = [(0, .pointer (some ⟨b, 0, none⟩)), (3, ov)] ∧
      LO 104 eH w.heap.size w3 ov l ∧ HA (SO w.heap.size ov) w3 acc l ∧ Rd w3 b s1 (k + 1 + szF acc) ∧ Kp (fun i => i = b) w w3 ∧ s1.length < m1 ∧ m1 ≤ n ∧ s1.length ≤ 4294967295 ∧ k + 1 + szF acc ≤ 200 ∧
      rdFo n t0 = (rdFo m1 s1).map (fun q => (apF acc q.1, q.2)))
    ⟨_, _, ⟨.nil, [], _, t0, n, rfl, rfl, LO.nil, rfl, hB2, k02, by omega, Nat.le_refl _, by omega, by simp only [szF]; omega, by cases rdFo n t0 <;> rfl⟩, (by repeat (first | exact trivial | refine And.intro rfl ?_))⟩ ?_
  clear hB2 k02 hw02
  rintro m ρ w3 ⟨acc, l, ov, s1, m1, rfl, rfl, hO, hA, hB3, k03, hm1, hmn, hs1, hka, hres⟩
  have hw3 := k03.size
  have hlen := hA.len
  have hlz := lenF_sz acc
  have hown : ∀ i, ov.ownBlock = some i → ¬ i = b := fun i hi e => by have := hO.ge i hi; omega
  obtain ⟨m', rfl⟩ : ∃ m', m1 = m' + 1 := ⟨m1 - 1, by omega⟩
  (repeat (first | with_reducible refine W.seq ?_ | with_reducible refine W.region ?_ | refine z_p (kk := ?_) | refine z_f (kk := ?_) | refine z_d (kk := ?_)))
  refine Ops.callS rfl rfl rfl rfl rfl (hasP_c (p := [40]) (by omega)) ?_
  cases hp : pre [40] s1 with
  | none =>
    rw [rdFo_none hp] at hres
    simp only [Option.map_some, apF_nil] at hres
    rw [show (none : Option (List UInt8)).isSome = false from rfl]
    (repeat (first | with_reducible refine Ops.nil ?_))
    refine W.condF rfl (by first | rfl | assumption | (simp only [bnf] <;> omega) | (simp only [*, bnf]; done) | fail) ?_
    (repeat (first | with_reducible refine W.seq ?_ | with_reducible refine W.region ?_ | refine z_p (kk := ?_) | refine W.exit rfl ?_))
    refine Ops.callP rfl rfl rfl rfl rfl (want_c (p := [41]) (by omega) hB3) (fun r w4 hR => ?_) (fun ch w4 hR => ?_)
    rotate_left
    · obtain ⟨rfl, hp1, k34⟩ := hR
      exact ⟨rfl, fun f t h => by rw [hrd, hres] at h; simp only at h; rw [hp1] at h; simp at h, kpb k03 k34⟩
    obtain ⟨v, hp1, hB4, k34⟩ := hR
    have k04 := kpb k03 k34
    have hO4 := hO.kp k34 (fun i hi e => hown i hi e)
    have hA4 := hA.kp k34 (fun i e => .inl (by omega))
    (repeat (first | with_reducible refine W.seq ?_ | with_reducible refine Ops.nil ?_ | with_reducible refine W.region ?_ | refine z_p (kk := ?_)))
    exact W.fretP rfl ⟨acc, v, by rw [hrd, hres]; simp only; rw [hp1]; rfl, hka, ⟨l, hO4.r1 k04.size (by omega) (fun i h => h), hA4.more (fun i h => .inl (.inl h))⟩, hB4, k04⟩
  | some t1 =>
    rw [rdFo_some hp] at hres
    rw [show (some t1).isSome = true from rfl]
    (repeat (first | with_reducible refine Ops.nil ?_))
    refine W.condT rfl (by first | rfl | assumption | (simp only [bnf] <;> omega) | (simp only [*, bnf]; done) | fail) ?_
    (repeat (first | with_reducible refine W.region ?_ | refine z_p (kk := ?_) | with_reducible refine W.skip ?_ | with_reducible refine W.block ?_))
    refine Ops.callP rfl rfl rfl rfl rfl (ih m' (by omega) (s := s1) (k := k + 1 + szF acc) (by omega) (by omega) (by omega) hB3) (fun ev w4 hR => ?_) (fun ch w4 hR => ?_)
    rotate_left
    · obtain ⟨rfl, h1, k34⟩ := hR
      refine ⟨rfl, fun f t h => ?_, kpb k03 k34⟩
      rw [hrd, hres] at h
      cases hx : rdHy m' s1 with
      | none => rw [hx] at h; simp at h
      | some u =>
        have := h1 u.1 u.2 hx
        rw [hx] at h
        simp only at h
        cases hy : rdFo m' u.2 with
        | none => rw [hy] at h; simp at h
        | some q =>
          rw [hy] at h
          simp only [Option.map_some] at h
          cases hz : pre [41] q.2 with
          | none => rw [hz] at h; simp at h
          | some vv =>
            rw [hz] at h
            simp only [Option.map_some, Option.some.injEq, Prod.mk.injEq] at h
            rw [← h.1, szF_ap]
            simp only [szF]
            omega
    obtain ⟨kf, v, hx, hkk, hM4, hB4, k34⟩ := hR
    have hlv := rdHy_len hx
    have k04 := kpb k03 k34
    have hO4 := hO.kp k34 (fun i hi e => hown i hi e)
    have hA4 := hA.kp k34 (fun i e => .inl (by omega))
    have hM4' : HM (SO w.heap.size ov) w4 ev kf := hM4.more (fun i h => .inl (by rcases h with h | h; omega; exact (hO.own.lt i h).2))
    obtain ⟨Ae, ce, rfl⟩ := hM4'.sh
    skip
    refine Ops.pushO (enc := eH) (u := (Ae, lenF kf, ce)) rfl rfl rfl rfl rfl rfl rfl rfl rfl rfl rfl rfl (fun _ => rfl) rfl (hO4.base k04.size) (by omega) (fun lv' p w5 hO5 k5 hn5 => ?_)
    replace hO5 := LO.put hO5 k04.size
    obtain ⟨q1, q2⟩ := so_pushH (N := w.heap.size) k5 hn5
    have hA5 := HA_snoc (v := (Ae, lenF kf, ce)) (q2 hM4') (q1 hA4)
    have hB5 := hB4.kp k5 (fun e => hown _ e rfl)
    have k05 : Kp (fun i => i = b) w w5 := (k04.trans k5).mono (fun i hi q => by
      rcases q with q | q
      · exact q
      · have := hO4.ge i q; omega)
    rw [hx] at hres
    (repeat (first | with_reducible refine Ops.nil ?_ | refine z_p (kk := ?_) | with_reducible refine W.endb ?_))
    refine W.endl ⟨_, _, ⟨⟨apF acc (.cons kf .nil), l ++ [(Ae, lenF kf, ce)], lv', v, m', rfl, rfl, hO5, hA5, ?_, k05, by omega, by omega, by omega, by rw [szF_ap]; simp only [szF]; omega, ?_⟩, by omega⟩, (by repeat (first | exact trivial | refine And.intro rfl ?_))⟩
    · rw [szF_ap]
      simp only [szF]
      rw [show k + 1 + (szF acc + (1 + szF kf + 0)) = k + 1 + szF acc + 1 + szF kf by omega]
      exact hB5
    · rw [hres]
      simp only
      cases rdFo m' v with
      | none => rfl
      | some q => simp only [Option.map_some, apF_assoc]; rfl
theorem readHydra_c {w : World} {s : List UInt8} (hs : s.length ≤ 4294967295) : Calls Tryz.prog 87 #[S s] w (RetP (fun r w' => ∃ f, rdHA s = some f ∧ HM (fun i => i < w.heap.size) w' r f ∧ Below w.heap.size w w') (fun ch w' => ch = trb 4 ∧ rdHA s = none ∧ Below w.heap.size w w')) := by
  refine calls_WP (vs := [_]) Tryz.func87 rfl (by kernel_rfl) rfl ?_
  (repeat (first | with_reducible refine W.seq ?_ | with_reducible refine Ops.nil ?_ | with_reducible refine W.region ?_ | refine z_p (kk := ?_)))
  refine z_ev (EV.bldH rfl rfl rfl rfl rfl) (kk := ?_)
  refine Ops.box rfl rfl rfl rfl (fun w1 b hM1 => ?_)
  have hB1 : Rd w1 b s 0 := hM1.at_
  have e1 := hM1.r_eq
  have s1 := hM1.size
  (repeat (first | with_reducible refine W.seq ?_ | with_reducible refine Ops.nil ?_ | with_reducible refine W.region ?_ | refine z_p (kk := ?_)))
  refine Ops.callP rfl rfl rfl rfl rfl (hydra_c (s.length + 1) (by omega) hs (by omega) hB1) (fun r w2 hR => ?_) (fun ch w2 hR => ?_)
  rotate_left
  · obtain ⟨rfl, h1, k12⟩ := hR
    refine ⟨rfl, ?_, Below.put (Mk.bel hM1) k12 (fun i e => by omega)⟩
    unfold rdHA
    split
    · rename_i f h2
      have := h1 _ _ h2
      rw [if_neg (by omega)]
    · rfl
  obtain ⟨f, t, h1, h2, hO, hB2, k12⟩ := hR
  have hb02 : Below w.heap.size w w2 := Below.put (Mk.bel hM1) k12 (fun i e => by omega)
  (repeat (first | with_reducible refine W.seq ?_ | with_reducible refine Ops.nil ?_ | with_reducible refine W.region ?_ | refine z_p (kk := ?_) | refine z_f (kk := ?_) | refine z_d (kk := ?_) | refine z_ev (EV.seq rfl rfl rfl rfl) (kk := ?_)))
  refine Ops.callP rfl rfl rfl rfl rfl (demand_c _ _ _) (fun r2 w3 hR => ?_) (fun ch w3 hR => ?_)
  rotate_left
  · obtain ⟨h3, rfl, rfl⟩ := hR
    refine ⟨rfl, ?_, hb02⟩
    unfold rdHA
    rw [h1]
    split
    · rename_i o2 h4
      simp only [Option.some.injEq, Prod.mk.injEq] at h4
      exact absurd h4.2 (by simpa using h3)
    · rfl
  obtain ⟨h3, rfl⟩ := hR
  have ht : t = [] := by simpa using h3
  subst ht
  (repeat (first | with_reducible refine W.seq ?_ | with_reducible refine Ops.nil ?_ | with_reducible refine W.region ?_ | refine z_p (kk := ?_)))
  refine W.fretP rfl ⟨f, ?_, hO.more (fun i h => .inl (by omega)), hb02⟩
  unfold rdHA
  rw [h1]
  simp only
  rw [if_pos (by omega)]
theorem rdHA_sz {s : List UInt8} {f : Fo} (h : rdHA s = some f) : 1 + szF f ≤ 200 := by
  unfold rdHA at h
  split at h
  · split at h
    · simp only [Option.some.injEq] at h
      subst h
      assumption
    · simp at h
  · simp at h
set_option maxHeartbeats 4000000 in
theorem heads_c : ∀ (n : Nat) {S' : Nat → Prop} {w : World} {v : Value} {f : Fo}, szF f ≤ n → n ≤ 1000000000 → HM S' w v f → Calls Tryz.prog 88 #[v] w (Ret fun r w' => r = .int .i64 (heF f : Nat) ∧ w' = w) := by
  intro n
  induction n using Nat.strongRecOn with
  | _ n ih =>
  intro S' w v f hn hbig hM
  obtain ⟨l, hR, hA⟩ := hM
  have hl := hA.len
  have hls := lenF_sz f
  have hhs := heF_sz f
  obtain ⟨A, c, rfl⟩ := hR.sh
  refine calls_W (vs := [_]) Tryz.func88 rfl (by kernel_rfl) rfl ?_
  (repeat (first | with_reducible refine W.seq ?_ | with_reducible refine Ops.nil ?_ | with_reducible refine W.region ?_ | refine z_p (kk := ?_) | with_reducible refine W.block ?_ | refine z_l (kk := ?_)))
  refine W.loop (fun m ρ w' => ∃ (i acc : Nat), m = l.length - i ∧ i ≤ l.length ∧ w' = w ∧ heF f = acc + heF (dropF f i) ∧ ρ = [(3, .int .i64 (acc : Int)), (6, .slice A l.length c), (7, .int .i64 l.length), (8, .int .i64 i)])
    ⟨_, _, ⟨0, 0, rfl, Nat.zero_le _, rfl, by rw [dropF_zero]; omega, rfl⟩, (by repeat (first | exact trivial | refine And.intro rfl ?_))⟩ ?_
  rintro m ρ w1 ⟨i, acc, rfl, hi, rfl, hacc, rfl⟩
  have hb11 : Below w1.heap.size w1 w1 := Below.refl _ _
  (repeat (first | with_reducible refine W.seq ?_ | with_reducible refine Ops.nil ?_ | with_reducible refine W.region ?_ | refine z_p (kk := ?_)))
  (first | refine W.condD rfl (fun hc => ?_) (fun hc => ?_) | refine W.condE rfl (fun hc => ?_) (fun hc => ?_) | refine W.condN rfl (fun hc => ?_) (fun hc => ?_) | refine W.cond rfl (fun hc => ?_) (fun hc => ?_))
  · have hil : i < l.length := by omega
    have aM := hA.at_ (i := i) (by omega)
    have hsz := nthF_sz (f := f) (i := i) (by omega)
    have hks := heF_sz (nthF f i)
    rw [dropF_cons (by omega), heF] at hacc
    generalize hva : l.getD i default = va at *
    (repeat (first | with_reducible refine W.seq ?_ | with_reducible refine Ops.nil ?_ | with_reducible refine W.region ?_ | refine z_p (kk := ?_) | with_reducible refine W.skip ?_ | with_reducible refine W.block ?_ | refine z_H (kk := fun _ => ?_)))
    rw [hva]
    refine Ops.callS rfl rfl rfl rfl rfl (ih _ (show szF (nthF f i) < n by omega) (Nat.le_refl _) (by omega) aM) ?_
    (repeat (first | with_reducible refine Ops.nil ?_ | with_reducible refine W.region ?_ | refine z_p (kk := ?_) | refine z_a (kk := ?_) | with_reducible refine W.endb ?_ | refine z_M (kk := ?_)))
    rw [show (max (1 : Int) ((heF (nthF f i) : Nat) : Int)) = ((max 1 (heF (nthF f i)) : Nat) : Int) by omega]
    skip
    exact W.endl ⟨_, _, ⟨⟨i + 1, acc + max 1 (heF (nthF f i)), rfl, by omega, rfl, by omega, rfl⟩, by omega⟩, (by repeat (first | exact trivial | refine And.intro rfl ?_))⟩
  · have hil : i = l.length := by omega
    subst hil
    rw [hl, dropF_len] at hacc
    (repeat (first | with_reducible refine W.seq ?_ | with_reducible refine Ops.nil ?_ | with_reducible refine W.region ?_ | refine z_p (kk := ?_) | refine W.exit rfl ?_))
    refine W.fret rfl ⟨?_, rfl⟩
    rw [hacc]; rfl
set_option maxHeartbeats 4000000 in
theorem hsize_c : ∀ (n : Nat) {S' : Nat → Prop} {w : World} {v : Value} {f : Fo}, szF f ≤ n → n ≤ 1000000000 → HM S' w v f → Calls Tryz.prog 93 #[v] w (Ret fun r w' => r = .int .i64 (1 + szF f : Nat) ∧ w' = w) := by
  intro n
  induction n using Nat.strongRecOn with
  | _ n ih =>
  intro S' w v f hn hbig hM
  obtain ⟨l, hR, hA⟩ := hM
  have hl := hA.len
  have hls := lenF_sz f
  obtain ⟨A, c, rfl⟩ := hR.sh
  refine calls_W (vs := [_]) Tryz.func93 rfl (by kernel_rfl) rfl ?_
  (repeat (first | with_reducible refine W.seq ?_ | with_reducible refine Ops.nil ?_ | with_reducible refine W.region ?_ | refine z_p (kk := ?_) | with_reducible refine W.block ?_ | refine z_l (kk := ?_)))
  refine W.loop (fun m ρ w' => ∃ (i acc : Nat), m = l.length - i ∧ i ≤ l.length ∧ w' = w ∧ 1 + szF f = acc + szF (dropF f i) ∧ ρ = [(3, .int .i64 (acc : Int)), (6, .slice A l.length c), (7, .int .i64 l.length), (8, .int .i64 i)])
    ⟨_, _, ⟨0, 1, rfl, Nat.zero_le _, rfl, by rw [dropF_zero], rfl⟩, (by repeat (first | exact trivial | refine And.intro rfl ?_))⟩ ?_
  rintro m ρ w1 ⟨i, acc, rfl, hi, rfl, hacc, rfl⟩
  have hb11 : Below w1.heap.size w1 w1 := Below.refl _ _
  (repeat (first | with_reducible refine W.seq ?_ | with_reducible refine Ops.nil ?_ | with_reducible refine W.region ?_ | refine z_p (kk := ?_)))
  (first | refine W.condD rfl (fun hc => ?_) (fun hc => ?_) | refine W.condE rfl (fun hc => ?_) (fun hc => ?_) | refine W.condN rfl (fun hc => ?_) (fun hc => ?_) | refine W.cond rfl (fun hc => ?_) (fun hc => ?_))
  · have hil : i < l.length := by omega
    have aM := hA.at_ (i := i) (by omega)
    have hsz := nthF_sz (f := f) (i := i) (by omega)
    rw [dropF_cons (by omega), szF] at hacc
    generalize hva : l.getD i default = va at *
    (repeat (first | with_reducible refine W.seq ?_ | with_reducible refine Ops.nil ?_ | with_reducible refine W.region ?_ | refine z_p (kk := ?_) | with_reducible refine W.skip ?_ | with_reducible refine W.block ?_ | refine z_H (kk := fun _ => ?_)))
    rw [hva]
    refine Ops.callS rfl rfl rfl rfl rfl (ih _ (show szF (nthF f i) < n by omega) (Nat.le_refl _) (by omega) aM) ?_
    (repeat (first | with_reducible refine Ops.nil ?_ | with_reducible refine W.region ?_ | refine z_p (kk := ?_) | refine z_a (kk := ?_) | with_reducible refine W.endb ?_))
    exact W.endl ⟨_, _, ⟨⟨i + 1, acc + (1 + szF (nthF f i)), rfl, by omega, rfl, by omega, rfl⟩, by omega⟩, (by repeat (first | exact trivial | refine And.intro rfl ?_))⟩
  · have hil : i = l.length := by omega
    subst hil
    rw [hl, dropF_len] at hacc
    (repeat (first | with_reducible refine W.seq ?_ | with_reducible refine Ops.nil ?_ | with_reducible refine W.region ?_ | refine z_p (kk := ?_) | refine W.exit rfl ?_))
    refine W.fret rfl ⟨?_, rfl⟩
    rw [hacc]; rfl
theorem txF_len : ∀ (f : Fo), (txF f).length = 2 * szF f
  | .nil => rfl
  | .cons k r => by simp only [txF, szF, List.length_cons, List.length_append, txF_len k, txF_len r]; omega
set_option maxHeartbeats 4000000 in
theorem htext_c : ∀ (n : Nat) {S' : Nat → Prop} {w : World} {v : Value} {f : Fo}, szF f ≤ n → n ≤ 1000000000 → HM S' w v f → Calls Tryz.prog 94 #[v] w (Ret fun r w' => r = S (txH f) ∧ w' = w) := by
  intro n
  induction n using Nat.strongRecOn with
  | _ n ih =>
  intro S' w v f hn hbig hM
  obtain ⟨l, hR, hA⟩ := hM
  have hl := hA.len
  have hls := lenF_sz f
  have htl := txF_len f
  obtain ⟨A, c, rfl⟩ := hR.sh
  refine calls_W (vs := [_]) Tryz.func94 rfl (by kernel_rfl) rfl ?_
  (repeat (first | with_reducible refine W.seq ?_ | with_reducible refine Ops.nil ?_ | with_reducible refine W.region ?_ | refine z_p (kk := ?_) | with_reducible refine W.block ?_ | refine z_l (kk := ?_)))
  refine W.loop (fun m ρ w' => ∃ (i : Nat) (acc : List UInt8), m = l.length - i ∧ i ≤ l.length ∧ w' = w ∧ 40 :: txF f = acc ++ txF (dropF f i) ∧ ρ = [(3, S acc), (6, .slice A l.length c), (7, .int .i64 l.length), (8, .int .i64 i)])
    ⟨_, _, ⟨0, [40], rfl, Nat.zero_le _, rfl, by rw [dropF_zero]; rfl, rfl⟩, (by repeat (first | exact trivial | refine And.intro rfl ?_))⟩ ?_
  rintro m ρ w1 ⟨i, acc, rfl, hi, rfl, hacc, rfl⟩
  have hb11 : Below w1.heap.size w1 w1 := Below.refl _ _
  have hal : acc.length + (txF (dropF f i)).length = 1 + 2 * szF f := by
    have := congrArg List.length hacc
    simp only [List.length_cons, List.length_append, htl] at this
    omega
  (repeat (first | with_reducible refine W.seq ?_ | with_reducible refine Ops.nil ?_ | with_reducible refine W.region ?_ | refine z_p (kk := ?_)))
  (first | refine W.condD rfl (fun hc => ?_) (fun hc => ?_) | refine W.condE rfl (fun hc => ?_) (fun hc => ?_) | refine W.condN rfl (fun hc => ?_) (fun hc => ?_) | refine W.cond rfl (fun hc => ?_) (fun hc => ?_))
  · have hil : i < l.length := by omega
    have aM := hA.at_ (i := i) (by omega)
    have hsz := nthF_sz (f := f) (i := i) (by omega)
    have hkl := txF_len (nthF f i)
    have htx : (txH (nthF f i)).length = 2 + 2 * szF (nthF f i) := by unfold txH; simp [hkl]; omega
    rw [dropF_cons (by omega), txF] at hacc
    generalize hva : l.getD i default = va at *
    (repeat (first | with_reducible refine W.seq ?_ | with_reducible refine Ops.nil ?_ | with_reducible refine W.region ?_ | refine z_p (kk := ?_) | with_reducible refine W.skip ?_ | with_reducible refine W.block ?_ | refine z_H (kk := fun _ => ?_)))
    rw [hva]
    refine Ops.callS rfl rfl rfl rfl rfl (ih _ (show szF (nthF f i) < n by omega) (Nat.le_refl _) (by omega) aM) ?_
    (repeat (first | with_reducible refine Ops.nil ?_ | with_reducible refine W.region ?_ | refine z_p (kk := ?_) | refine z_a (kk := ?_) | with_reducible refine W.endb ?_ | refine z_ev (EV.sadd rfl rfl rfl (by first | omega | (simp only [List.length_append, List.length_cons, List.length_nil]; omega))) (kk := ?_)))
    exact W.endl ⟨_, _, ⟨⟨i + 1, acc ++ txH (nthF f i), rfl, by omega, rfl, by rw [hacc]; simp [txH], rfl⟩, by omega⟩, (by repeat (first | exact trivial | refine And.intro rfl ?_))⟩
  · have hil : i = l.length := by omega
    subst hil
    rw [hl, dropF_len, txF, List.append_nil] at hacc
    subst hacc
    (repeat (first | with_reducible refine W.seq ?_ | with_reducible refine Ops.nil ?_ | with_reducible refine W.region ?_ | refine z_p (kk := ?_) | refine W.exit rfl ?_ | refine z_ev (EV.sadd rfl rfl rfl (by first | omega | (simp only [List.length_append, List.length_cons, List.length_nil]; omega))) (kk := ?_)))
    refine W.fret rfl ⟨?_, rfl⟩
    unfold txH
    rfl
end Go.Proofs.YtcmjlmnfdncajaaGreatDoor
namespace Go.Proofs.YtcmjlmnfdncajaaGreatDoor
open Go Go.RowKit Go.Proofs.YtcmjlmnfdncajaaGreatDoor.VW Go.Proofs.YtcmjlmnfdncajaaGreatDoor.TW
attribute [local irreducible] W Ops OrdA VW.Ord OrdX Wi OpsI OrdF
theorem hclone_c {S' : Nat → Prop} {w : World} {v : Value} {l : List HS} (hR : R1 S' w v l) (hb : l.length ≤ 1000000) : Calls Tryz.prog 114 #[v] w (Ret fun r w' => LO 104 eH w.heap.size w' r l ∧ Below w.heap.size w w' ∧ (0 < l.length → r.ownBlock ≠ none)) := by
  have hR0 := hR
  obtain ⟨A, c, rfl, h0, hc⟩ := hR
  refine calls_W (vs := [_]) Tryz.func114 rfl (by kernel_rfl) rfl ?_
  (repeat (first | with_reducible refine W.seq ?_ | with_reducible refine Ops.nil ?_ | with_reducible refine W.region ?_ | refine z_p (kk := ?_)))
  refine z_ev (EV.nilE rfl rfl rfl rfl) (kk := ?_)
  cases A with
  | none =>
    have : l = [] := by
      cases l with
      | nil => rfl
      | cons a r => obtain ⟨a, h, _⟩ := hc (by simp); cases h
    subst this
    (repeat (first | with_reducible refine Ops.nil ?_))
    refine W.condT rfl (by first | rfl | assumption | (simp only [bnf] <;> omega) | (simp only [*, bnf]; done) | fail) ?_
    (repeat (first | with_reducible refine W.seq ?_ | with_reducible refine Ops.nil ?_ | with_reducible refine W.region ?_ | refine z_p (kk := ?_)))
    exact W.fret rfl ⟨LO.nil, Below.refl _ _, fun h => by simp at h⟩
  | some a =>
    (repeat (first | with_reducible refine Ops.nil ?_))
    refine W.condF rfl (by first | rfl | assumption | (simp only [bnf] <;> omega) | (simp only [*, bnf]; done) | fail) ?_
    (repeat (first | with_reducible refine W.seq ?_ | with_reducible refine W.region ?_ | with_reducible refine W.skip ?_))
    refine Ops.bs0 rfl rfl rfl rfl rfl (fun w1 r hM1 => ?_)
    have hb1 := Mk.bel hM1
    have s1 := hM1.size
    have e1 := hM1.r_eq
    have hO1 : OI 104 eH w w1 (.slice (some ⟨r, 0, none⟩) 0 0) [] := ⟨hb1, own_zero hM1, fun i hi => by have := own_r hi; omega⟩
    (repeat (first | refine z_p (kk := ?_)))
    refine Ops.appO (enc := eH) default rfl rfl rfl rfl rfl rfl rfl rfl rfl rfl hO1 (hR0.below hb1).sl (Below.refl _ _) (fun _ => rfl) (by simp only [List.length_nil]; omega) (fun v2 w2 hO2 k2 hn2 => ?_)
    have hb2 := hO2.bel
    (repeat (first | with_reducible refine Ops.nil ?_ | refine z_p (kk := ?_)))
    refine W.fret rfl ⟨LO.of hO2, hb2, fun hp e => ?_⟩
    obtain ⟨B, cc, rfl⟩ := hO2.sh
    cases B with
    | none =>
      rcases hO2.own.2 with ⟨h5, h6⟩ | ⟨g, cap, cur, h5, _⟩
      · simp only [List.nil_append] at h6; omega
      · cases h5
    | some b => simp [resV, Value.ownBlock] at e
set_option maxHeartbeats 2000000 in
theorem hdelete_c {N : Nat} {w : World} {v : Value} {os : List HS} {i : Nat} (hO : LO 104 eH N w v os) (hN : N ≤ w.heap.size) (hi : i < os.length) (hb : os.length ≤ 1000000) :
    Calls Tryz.prog 113 #[v, .int .i64 (i : Int), .int .i64 ((i + 1 : Nat) : Int)] w (Ret fun r w' => LO 104 eH N w' r (os.take i ++ os.drop (i + 1)) ∧ Kp (fun b => v.ownBlock = some b) w w' ∧ r.ownBlock = v.ownBlock) := by
  obtain ⟨g, c, rfl, hmc⟩ : ∃ g c, v = .slice (some ⟨g, 0, none⟩) os.length c ∧ os.length ≤ c := by
    rcases hO.own.2 with ⟨h2, h3⟩ | ⟨g, cap, cur, h2, _, _, hnc, _⟩
    · omega
    · exact ⟨g, cap, h2, hnc⟩
  have hOI := hO.base hN
  refine calls_W (vs := [_, _, _]) Tryz.func113 rfl (by kernel_rfl) rfl ?_
  (repeat (first | with_reducible refine W.seq ?_ | with_reducible refine Ops.nil ?_ | with_reducible refine W.region ?_ | refine z_p (kk := ?_) | refine z_l (kk := ?_)))
  refine z_ev (EV.slT rfl rfl rfl rfl rfl rfl rfl (by omega) (by omega) hmc) (kk := ?_)
  (repeat (first | with_reducible refine W.seq ?_ | with_reducible refine Ops.nil ?_ | with_reducible refine W.region ?_ | refine z_p (kk := ?_)))
  refine W.condF rfl (by first | rfl | assumption | (simp only [bnf] <;> omega) | (simp only [*, bnf]; done) | fail) ?_
  (repeat (first | with_reducible refine W.seq ?_ | with_reducible refine Ops.nil ?_ | with_reducible refine W.region ?_ | refine z_p (kk := ?_) | with_reducible refine W.skip ?_ | refine z_l (kk := ?_)))
  refine W.ordA 6 [(0, 1), (1, 1), (2, 1), (3, 1), (4, 1), (5, 1), (6, 0), (7, 1)] rfl (by kernel_rfl) rfl (by kernel_rfl) (fun _ _ _ h => h) ?_
  (repeat (first | refine x_p (kk := ?_)))
  refine OrdA.pure rfl rfl rfl rfl (fun _ => EV.slH rfl rfl rfl rfl rfl (by omega) (by omega)) ?_
  (repeat (first | refine x_p (kk := ?_)))
  refine OrdA.pure rfl rfl rfl rfl (fun _ => EV.slE rfl rfl rfl rfl rfl (by omega)) ?_
  rw [Int.toNat_natCast]
  refine OrdA.eff rfl (fun w5 hb5 => ?_)
  have hO5 := hOI.below hb5
  have hR5 : R1 (fun _ => False) w5 (.slice (some ⟨g, 0, none⟩) os.length c) os := hO5.r1 (by omega) (fun _ _ e => e)
  have hdr := hR5.drop (q := i + 1) (by omega)
  have hdl : (os.drop (i + 1)).length = os.length - (i + 1) := List.length_drop ..
  refine Ops.appI (enc := eH) (z0 := default) rfl rfl rfl rfl rfl rfl rfl rfl rfl hO5 rfl hdr.sl (by omega) (fun _ => rfl) (fun w6 hO6 k6 => Ops.nil (W.endl ?_))
  (repeat (first | refine y_p (kk := ?_)))
  refine VW.Ord.nil ?_
  have hle : (os.take i ++ os.drop (i + 1) ++ os.drop (i + (os.drop (i + 1)).length)).length = os.length := by simp; omega
  rw [hdl]
  (repeat (first | with_reducible refine W.seq ?_ | with_reducible refine W.region ?_ | refine z_p (kk := ?_) | refine z_l (kk := ?_)))
  rw [show ((i + (os.length - (i + 1)) : Nat) : Int) = ((os.length - 1 : Nat) : Int) by omega]
  refine z_ev (EV.slQ1 rfl rfl rfl rfl rfl rfl (by omega) (by omega) (by omega)) (kk := ?_)
  rw [show os.length - (os.length - 1) = 1 by omega, hdl, show i + (os.length - (i + 1)) = os.length - 1 by omega] at *
  refine Ops.clrO (by' := 0) (enc := eH) (z0 := default) (p := os.length - 1) (q := 1) rfl rfl rfl rfl rfl rfl rfl rfl hO6 (by rw [hle]) (by rw [hle]; omega) (by omega) (fun _ => rfl) (fun w7 hO7 k7 => ?_)
  have hle7 : (List.take (os.length - 1) (os.take i ++ os.drop (i + 1) ++ os.drop (os.length - 1)) ++ List.replicate 1 (default : HS) ++ List.drop (os.length - 1 + 1) (os.take i ++ os.drop (i + 1) ++ os.drop (os.length - 1))).length = os.length := by simp; omega
  have hOf := OI.pre (h := os.length - 1) hO7 hle7.symm (by omega)
  have hlf : List.take (os.length - 1) (List.take (os.length - 1) (os.take i ++ os.drop (i + 1) ++ os.drop (os.length - 1)) ++ List.replicate 1 (default : HS) ++ List.drop (os.length - 1 + 1) (os.take i ++ os.drop (i + 1) ++ os.drop (os.length - 1))) = os.take i ++ os.drop (i + 1) := by
    have hl2 : (os.take i ++ os.drop (i + 1)).length = os.length - 1 := by simp; omega
    rw [List.append_assoc, List.take_append_of_le_length (by simp; omega), List.take_take, Nat.min_self, List.take_append_of_le_length (by omega), List.take_of_length_le (by omega)]
  rw [hlf] at hOf
  (repeat (first | with_reducible refine W.seq ?_ | with_reducible refine Ops.nil ?_ | with_reducible refine W.region ?_ | refine z_p (kk := ?_)))
  exact W.fret rfl ⟨LO.put hOf hN, (((kpF hb5).trans k6).trans k7).mono (fun b _ e => by
    rcases e with (e | e) | e
    · exact e.elim
    · rw [e]; rfl
    · rw [e]; rfl), rfl⟩
theorem wrapU {n : Nat} (h : n ≤ 1000) : IntKind.u64.wrap (n : Int) = n := by
  simp only [IntKind.wrap, IntKind.bits, IntKind.signed]
  simp
  omega
theorem mul64_c (n : Nat) (hn : n < 1001) (w : World) : Calls Tryz.prog 141 #[.int .u64 1, .int .u64 n] w (Ret fun r w' => r = .tuple #[.int .u64 0, .int .u64 n] ∧ w' = w) := by
  refine calls_W (vs := [_, _]) Tryz.func141 rfl (by kernel_rfl) rfl ?_
  (repeat (first | with_reducible refine W.seq ?_ | with_reducible refine Ops.nil ?_ | with_reducible refine W.region ?_ | refine z_p (kk := ?_) | refine Ops.evG rfl rfl rfl (EV.bw rfl rfl rfl rfl) ?_ | refine Ops.evG rfl rfl rfl (EV.bsh rfl rfl rfl rfl) ?_))
  refine W.fret rfl ⟨?_, rfl⟩
  refine congr (congrArg (fun a b => Value.tuple #[.int .u64 a, .int .u64 b]) ?_) ?_
  · clear w
    obtain ⟨m, rfl⟩ : ∃ m : Fin 1001, n = m.val := ⟨⟨n, hn⟩, rfl⟩
    clear hn
    revert m
    decide +kernel
  · clear w
    obtain ⟨m, rfl⟩ : ∃ m : Fin 1001, n = m.val := ⟨⟨n, hn⟩, rfl⟩
    clear hn
    revert m
    decide +kernel
theorem mul_c (n : Nat) (hn : n < 1001) (w : World) : Calls Tryz.prog 130 #[.int .u64 1, .int .u64 n] w (Ret fun r w' => r = .tuple #[.int .u64 0, .int .u64 n] ∧ w' = w) := by
  refine calls_W (vs := [_, _]) Tryz.func130 rfl (by kernel_rfl) rfl ?_
  (repeat (first | with_reducible refine W.seq ?_ | with_reducible refine Ops.nil ?_ | with_reducible refine W.region ?_ | refine z_p (kk := ?_)))
  refine W.condF rfl (by first | rfl | assumption | (simp only [bnf] <;> omega) | (simp only [*, bnf]; done) | fail) ?_
  (repeat (first | with_reducible refine W.seq ?_ | with_reducible refine W.region ?_ | refine z_p (kk := ?_) | with_reducible refine W.skip ?_))
  refine Ops.callS rfl rfl rfl rfl rfl (mul64_c n hn w) ?_
  (repeat (first | with_reducible refine W.seq ?_ | with_reducible refine Ops.nil ?_ | with_reducible refine W.region ?_ | refine z_p (kk := ?_)))
  exact W.fret rfl ⟨rfl, rfl⟩
set_option maxHeartbeats 1000000 in
theorem hrepeat_c {w : World} {v : Value} {u : HS} {n : Nat} (hv : Sl eH default w v [u]) (hn : n ≤ 1000) : Calls Tryz.prog 116 #[v, .int .i64 n] w (Ret fun r w' => LO 104 eH w.heap.size w' r (List.replicate n u) ∧ Below w.heap.size w w') := by
  obtain ⟨A, c, rfl⟩ := Sl.shape hv
  refine calls_W (vs := [_, _]) Tryz.func116 rfl (by kernel_rfl) rfl ?_
  (repeat (first | with_reducible refine W.seq ?_ | with_reducible refine Ops.nil ?_ | with_reducible refine W.region ?_ | refine z_p (kk := ?_)))
  refine W.condF rfl (by first | rfl | assumption | (simp only [bnf] <;> omega) | (simp only [*, bnf]; done) | fail) ?_
  (repeat (first | with_reducible refine W.seq ?_ | with_reducible refine W.region ?_ | refine z_p (kk := ?_) | with_reducible refine W.skip ?_ | refine z_l (kk := ?_)))
  refine Ops.cv rfl rfl rfl rfl rfl rfl ?_
  (repeat (first | refine z_p (kk := ?_)))
  refine Ops.cv rfl rfl rfl rfl rfl rfl ?_
  rw [wrapU hn, show IntKind.u64.wrap (([u] : List HS).length : Int) = 1 from rfl]
  skip
  refine Ops.callS rfl rfl rfl rfl rfl (mul_c n (by omega) w) ?_
  (repeat (first | with_reducible refine W.seq ?_ | with_reducible refine Ops.nil ?_ | with_reducible refine W.region ?_ | refine z_p (kk := ?_) | refine z_y (kk := ?_)))
  refine W.condF rfl (by first | rfl | assumption | (simp only [bnf] <;> omega) | (simp only [*, bnf]; done) | fail) ?_
  (repeat (first | with_reducible refine W.seq ?_ | with_reducible refine W.region ?_ | refine z_p (kk := ?_) | with_reducible refine W.skip ?_))
  refine Ops.cv rfl rfl rfl rfl rfl rfl ?_
  rw [wrap_in ⟨by omega, by omega⟩]
  refine Ops.mkO (w0 := w) eH default rfl rfl rfl rfl rfl rfl rfl rfl rfl (by omega) rfl (Below.refl _ _) (fun w2 dr hO2 k2 _ => ?_)
  (repeat (first | with_reducible refine W.seq ?_ | with_reducible refine Ops.nil ?_ | with_reducible refine W.region ?_ | refine z_p (kk := ?_)))
  have hl2 : (List.replicate n (default : HS)).length = n := by simp
  generalize List.replicate n (default : HS) = os2 at *
  refine Ops.cpO (enc := eH) (z := default) rfl rfl rfl rfl rfl rfl rfl hO2 (Sl.kp hv k2 (fun _ _ e => e)) (by simp) (by omega) (fun _ => rfl) (fun w3 hO3 k3 _ => ?_)
  have hO3' : ∃ (os : List HS) (q : Nat), OI 104 eH w w3 (.slice (some ⟨dr, 0, none⟩) n n) os ∧ os.length = n ∧ q = Min.min ([u] : List HS).length n ∧ (0 < n → 1 ≤ q) ∧ q ≤ n ∧ ∀ j, j < q → os.getD j default = u := ⟨_, _, hO3, by simp [hl2]; omega, rfl, fun h => by simp; omega, by simp; omega, fun j hj => by
    have hj0 : j = 0 := by simp at hj; omega
    have hn0 : 0 < n := by simp at hj; omega
    subst hj0
    obtain ⟨m, rfl⟩ : ∃ m, n = m + 1 := ⟨n - 1, by omega⟩
    simp⟩
  clear hO3 hO2 k2 k3 hl2
  obtain ⟨os3, q, hO3, hl3, hq, hq1, hqn, hv3⟩ := hO3'
  rw [← hq]
  clear hq
  (repeat (first | with_reducible refine W.seq ?_ | with_reducible refine Ops.nil ?_ | refine z_p (kk := ?_) | with_reducible refine W.block ?_))
  refine W.loop (fun m ρ w4 => ∃ (k : Nat) (os : List HS), m = n - k ∧ (0 < n → 1 ≤ k) ∧ k ≤ n ∧ ρ = [(7, .slice (some ⟨dr, 0, none⟩) n n), (8, .int .i64 k)] ∧ OI 104 eH w w4 (.slice (some ⟨dr, 0, none⟩) n n) os ∧ os.length = n ∧ ∀ j, j < k → os.getD j default = u)
    ⟨_, _, ⟨q, os3, rfl, hq1, hqn, rfl, hO3, hl3, hv3⟩, (by repeat (first | exact trivial | refine And.intro rfl ?_))⟩ ?_
  clear hO3 hl3 hv3 hq1 hqn
  rintro m ρ w4 ⟨k, os, rfl, hk1, hkn, rfl, hO, hol, hvs⟩
  (repeat (first | with_reducible refine W.seq ?_ | with_reducible refine Ops.nil ?_ | with_reducible refine W.region ?_ | refine z_p (kk := ?_) | refine z_l (kk := ?_)))
  (first | refine W.condD rfl (fun hc => ?_) (fun hc => ?_) | refine W.condE rfl (fun hc => ?_) (fun hc => ?_) | refine W.condN rfl (fun hc => ?_) (fun hc => ?_) | refine W.cond rfl (fun hc => ?_) (fun hc => ?_))
  · have hk1' : 1 ≤ k := hk1 (by omega)
    (repeat (first | with_reducible refine W.skip ?_ | with_reducible refine W.block ?_))
    refine W.ordA 7 [(0, 1), (1, 1), (2, 1), (3, 1), (4, 1), (5, 1), (6, 1), (7, 0), (8, 1), (9, 1)] rfl (by kernel_rfl) rfl (by kernel_rfl) (fun _ _ _ h => h) ?_
    (repeat (first | refine x_p (kk := ?_)))
    refine OrdA.pure rfl rfl rfl rfl (fun _ => EV.slO rfl rfl rfl rfl rfl (by omega) (by omega) (Nat.le_refl _)) ?_
    (repeat (first | refine x_p (kk := ?_)))
    refine OrdA.pure rfl rfl rfl rfl (fun _ => EV.slH rfl rfl rfl rfl rfl (by omega) (by omega)) ?_
    rw [Int.toNat_natCast]
    refine OrdA.eff rfl (fun w5 hb5 => ?_)
    have hO5 := hO.below hb5
    have hs5 : Sl eH default w5 (.slice (some ⟨dr, 0, none⟩) k n) (os.take k) := (OI.pre hO5 (by omega) (by omega)).sl
    have hlk : (os.take k).length = k := by simp; omega
    refine Ops.cpO (enc := eH) (z := default) rfl rfl rfl rfl rfl rfl rfl hO5 hs5 (by omega) (by omega) (fun _ => rfl) (fun w6 hO6 k6 _ => Ops.nil (W.endl ?_))
    rw [hlk] at hO6 ⊢
    have hlen6 : (os.take k ++ (os.take k).take (n - k) ++ os.drop (k + min k (n - k))).length = n := by simp; omega
    have hv6 : ∀ j, j < k + min k (n - k) → (os.take k ++ (os.take k).take (n - k) ++ os.drop (k + min k (n - k))).getD j default = u := fun j hj => by
      have hl : (os.take k ++ (os.take k).take (n - k)).length = k + min k (n - k) := by simp; omega
      rw [List.getD_eq_getElem?_getD, List.getElem?_append_left (by omega)]
      by_cases e : j < k
      · rw [List.getElem?_append_left (by omega), List.getElem?_take, if_pos e, ← List.getD_eq_getElem?_getD]
        exact hvs j e
      · rw [List.getElem?_append_right (by omega), hlk, List.take_take, List.getElem?_take, if_pos (by omega), ← List.getD_eq_getElem?_getD]
        exact hvs _ (by omega)
    (repeat (first | refine y_p (kk := ?_) | refine y_a (kk := ?_)))
    refine VW.Ord.nil ?_
    rw [show (k : Int) + ((min k (n - k) : Nat) : Int) = ((k + min k (n - k) : Nat) : Int) by omega]
    (repeat (first | with_reducible refine W.endb ?_))
    exact W.endl ⟨_, _, ⟨⟨k + min k (n - k), _, rfl, by omega, by omega, rfl, hO6, hlen6, hv6⟩, by omega⟩, (by repeat (first | exact trivial | refine And.intro rfl ?_))⟩
  · have hkn2 : k = n := by omega
    subst hkn2
    have hos : os = List.replicate k u := by
      apply List.ext_getElem (by simp [hol])
      intro j h1 h2
      have := hvs j (by omega)
      rw [List.getD_eq_getElem?_getD, List.getElem?_eq_getElem h1] at this
      simpa using this
    rw [hos] at hO
    (repeat (first | with_reducible refine W.seq ?_ | with_reducible refine Ops.nil ?_ | with_reducible refine W.region ?_ | refine z_p (kk := ?_) | refine W.exit rfl ?_))
    exact W.fret rfl ⟨LO.of hO, hO.bel⟩
end Go.Proofs.YtcmjlmnfdncajaaGreatDoor
namespace Go.Proofs.YtcmjlmnfdncajaaGreatDoor
open Go Go.RowKit Go.Proofs.YtcmjlmnfdncajaaGreatDoor.VW Go.Proofs.YtcmjlmnfdncajaaGreatDoor.TW
attribute [local irreducible] W Ops OrdA VW.Ord OrdX Wi OpsI OrdF
theorem LO.take {N : Nat} {w : World} {g m c h : Nat} {os : List HS} (hO : LO 104 eH N w (.slice (some ⟨g, 0, none⟩) m c) os) (hN : N ≤ w.heap.size) (hm : m = os.length) (hh : h ≤ m) : LO 104 eH N w (.slice (some ⟨g, 0, none⟩) h c) (os.take h) :=
  LO.put (OI.pre (hO.base hN) hm hh) hN
theorem ovl {n : Nat} {ρ : E} {w : World} {o : Oper} {x y : Operand} {ts : Array TypeId} {gy g off la ca lb cb e1 e2 : Nat} {cur1 cur2 : Array Value} (ho : o.op = .call { callee := .value (.func 128), args := #[x, y], argTypes := ts }) (hx : ev ρ x = some (.slice (some ⟨gy, 0, none⟩) la ca)) (hy : ev ρ y = some (.slice (some ⟨g, off, none⟩) lb cb)) (hne : gy ≠ g) (hB1 : Blk w gy cur1 e1) (hB2 : Blk w g cur2 e2) (hk : cur2.size ≠ 0) : EV Tryz.prog n ρ w o (.bool false) := by
  intro a hr
  have h1 : w.heap[gy]? = some (.cells cur1 e1 (0, 0)) := hB1
  have h2 : w.heap[g]? = some (.cells cur2 e2 (0, 0)) := hB2
  have hov : (callFunc 128 #[.slice (some ⟨gy, 0, none⟩) la ca, .slice (some ⟨g, off, none⟩) lb cb]).run Tryz.prog w = .ok (.value (.bool false)) w := by
    rw [run_callFunc_extern Tryz.func128 (by kernel_rfl) (by kernel_rfl) (by kernel_rfl) (e := Extern.SlicesOverlaps.overlaps #[103, 103] #[4]) (by kernel_rfl),
      Lib.run_overlaps_apart w 103 4 104 (td_slice (tyD_ok (P := Tryz.prog) (t := 103) rfl)) 1 (fun w => VW.run_sizeOf (P := Tryz.prog) (w := w) (t := 104) (s := 1) rfl) ⟨gy, 0, none⟩ ⟨g, off, none⟩ la ca lb cb hne e1 e2 cur1.size cur2.size (by simp [World.shape?, h1]) (by simp [World.shape?, h2]) hk (by simp [World.frozen?, h1]) (by simp [World.frozen?, h1])]
    rfl
  simp only [execOp, ho, resolve]
  simp [hr.ev hx, hr.ev hy, invoke, show a.eval (.func 128) = .func (.func 128) #[] #[] from rfl, Deferred.ofValue, hov]
set_option maxHeartbeats 4000000 in
theorem hinsert_c {N : Nat} {w : World} {v yv : Value} {os ys : List HS} {i : Nat} (hO : LO 104 eH N w v os) (hY : LO 104 eH N w yv ys) (hN : N ≤ w.heap.size) (hne : ∀ b, v.ownBlock = some b → yv.ownBlock ≠ some b) (hi : i ≤ os.length) (hb : os.length ≤ 100000) (hby : ys.length ≤ 100000) :
    Calls Tryz.prog 115 #[v, .int .i64 (i : Int), yv] w (Ret fun r w' => LO 104 eH N w' r (os.take i ++ ys ++ os.drop i) ∧ Kp (fun b => v.ownBlock = some b) w w' ∧ (∀ b, r.ownBlock = some b → v.ownBlock = some b ∨ w.heap.size ≤ b)) := by
  obtain ⟨A, c, hv⟩ := hO.sh
  obtain ⟨Ay, cy, hyv⟩ := hY.sh
  have hOI := hO.base hN
  have hYI := hY.base hN
  have hlc : os.length ≤ c := by rw [hv] at hO; exact own_cap hO.own
  rw [hv, hyv]
  refine calls_W (vs := [_, _, _]) Tryz.func115 rfl (by kernel_rfl) rfl ?_
  (repeat (first | with_reducible refine W.seq ?_ | with_reducible refine Ops.nil ?_ | with_reducible refine W.region ?_ | refine z_p (kk := ?_)))
  refine z_ev (EV.slE rfl rfl rfl rfl rfl hi) (kk := ?_)
  (repeat (first | with_reducible refine W.seq ?_ | with_reducible refine Ops.nil ?_ | with_reducible refine W.region ?_ | refine z_p (kk := ?_) | refine z_l (kk := ?_)))
  by_cases hy0 : ys.length = 0
  · have hys : ys = [] := List.eq_nil_of_length_eq_zero hy0
    refine W.condT rfl (by first | rfl | assumption | (simp only [bnf] <;> omega) | (simp only [*, bnf]; done) | fail) ?_
    (repeat (first | with_reducible refine W.seq ?_ | with_reducible refine Ops.nil ?_ | with_reducible refine W.region ?_ | refine z_p (kk := ?_)))
    refine W.fret rfl ⟨?_, Kp.refl _ _, fun b hb => .inl hb⟩
    subst hys
    rw [List.append_nil, List.take_append_drop, show resV [Value.slice A os.length c] = v from hv.symm]
    exact hO
  · refine W.condF rfl (by first | rfl | assumption | (simp only [bnf] <;> omega) | (simp only [*, bnf]; done) | fail) ?_
    (repeat (first | with_reducible refine W.seq ?_ | with_reducible refine Ops.nil ?_ | with_reducible refine W.region ?_ | refine z_p (kk := ?_) | with_reducible refine W.skip ?_ | refine z_l (kk := ?_)))
    by_cases hin : i = os.length
    · subst hin
      refine W.condT rfl (by first | rfl | assumption | (simp only [bnf] <;> omega) | (simp only [*, bnf]; done) | fail) ?_
      (repeat (first | with_reducible refine W.seq ?_ | with_reducible refine W.region ?_ | refine z_p (kk := ?_)))
      refine Ops.appU (enc := eH) (z0 := default) rfl rfl rfl rfl rfl rfl rfl rfl rfl rfl rfl (by rw [← hv]; exact hOI.own) (by rw [← hyv]; exact hYI.sl) (by omega) (fun _ => rfl) (by omega) (fun v2 w2 hO2 k2 hn2 => ?_)
      (repeat (first | with_reducible refine Ops.nil ?_ | refine z_p (kk := ?_)))
      refine W.fret rfl ⟨⟨?_, fun b hb => ?_⟩, k2, hn2⟩
      · rw [List.take_length, List.drop_length, List.append_nil, List.length_append, List.map_append]
        exact hO2
      · rcases hn2 b hb with h | h
        · exact hO.ge b (by rw [hv]; exact h)
        · omega
    · have hil : i < os.length := by omega
      obtain ⟨g, rfl⟩ : ∃ g, A = some ⟨g, 0, none⟩ := by
        rcases hO.own.2 with ⟨h2, h3⟩ | ⟨g, cap, cur, h2, _, _, hnc, _⟩
        · omega
        · rw [hv] at h2
          simp only [Value.slice.injEq] at h2
          exact ⟨g, h2.1⟩
      obtain ⟨gy, rfl⟩ : ∃ g, Ay = some ⟨g, 0, none⟩ := by
        rcases hY.own.2 with ⟨h2, h3⟩ | ⟨g, cap, cur, h2, _, _, hnc, _⟩
        · omega
        · rw [hyv] at h2
          simp only [Value.slice.injEq] at h2
          exact ⟨g, h2.1⟩
      subst hv hyv
      have hgn : g ≠ gy := fun e => hne g rfl (by rw [e]; rfl)
      refine W.condF rfl (by first | rfl | assumption | (simp only [bnf] <;> omega) | (simp only [*, bnf]; done) | fail) ?_
      (repeat (first | with_reducible refine W.seq ?_ | with_reducible refine W.region ?_ | refine z_p (kk := ?_) | refine z_a (kk := ?_) | with_reducible refine W.skip ?_))
      refine Ops.cap rfl rfl rfl rfl rfl ?_
      (repeat (first | with_reducible refine Ops.nil ?_ | refine z_p (kk := ?_)))
      have hdl : (os.drop i).length = os.length - i := List.length_drop ..
      by_cases hroom : os.length + ys.length ≤ c
      · refine W.condF rfl (by first | rfl | assumption | (simp only [bnf] <;> omega) | (simp only [*, bnf]; done) | fail) ?_
        (repeat (first | with_reducible refine W.seq ?_ | with_reducible refine W.region ?_ | refine z_p (kk := ?_) | refine z_a (kk := ?_) | with_reducible refine W.skip ?_))
        obtain ⟨cur, hBg, hcz, htk⟩ : ∃ cur : Array Value, Blk w g cur 104 ∧ cur.size = c ∧ cur.toList.take os.length = os.map eH := by
          rcases hO.own.2 with ⟨h2, h3⟩ | ⟨g', cap, cur, h2, _, hg, hnc, hx2, hcs, ht⟩
          · cases h2
          · cases h2
            exact ⟨cur, hg, by simpa using hcs, by simpa using ht⟩
        obtain ⟨cury, hBy⟩ : ∃ cury : Array Value, Blk w gy cury 104 := by
          rcases hY.own.2 with ⟨h2, h3⟩ | ⟨g', cap, cur, h2, _, hg, hnc, hx2, hcs, ht⟩
          · cases h2
          · cases h2
            exact ⟨cur, hg⟩
        have hcm : c ≤ maxLen := by
          rcases hO.own.2 with ⟨h2, h3⟩ | ⟨g', cap, cur, h2, _, hg, hnc, hx2, hcs, ht⟩
          · cases h2
          · cases h2; exact hx2
        refine z_ev (EV.slH rfl rfl rfl rfl rfl (by omega) (by omega)) (kk := ?_)
        rw [show ((os.length : Int) + ys.length).toNat = os.length + ys.length by omega]
        (repeat (first | with_reducible refine W.seq ?_ | with_reducible refine Ops.nil ?_ | with_reducible refine W.region ?_ | refine z_p (kk := ?_) | refine z_a (kk := ?_)))
        rw [show ((i : Int) + ys.length) = ((i + ys.length : Nat) : Int) by omega]
        refine z_ev (EV.slO rfl rfl rfl rfl rfl (by omega) (by omega) hroom) (kk := ?_)
        refine z_ev (ovl rfl rfl rfl hgn.symm hBy hBg (by omega)) (kk := ?_)
        (repeat (first | with_reducible refine Ops.nil ?_ | refine z_p (kk := ?_)))
        refine W.condT rfl (by first | rfl | assumption | (simp only [bnf] <;> omega) | (simp only [*, bnf]; done) | fail) ?_
        (repeat (first | with_reducible refine W.seq ?_))
        refine W.ordA 8 [(0, 1), (1, 1), (2, 1), (3, 1), (4, 1), (5, 1), (6, 1), (7, 1), (8, 0)] rfl (by kernel_rfl) rfl (by kernel_rfl) (fun _ _ _ h => h) ?_
        (repeat (first | refine x_p (kk := ?_) | refine x_a (kk := ?_)))
        rw [show ((i : Int) + ys.length) = ((i + ys.length : Nat) : Int) by omega]
        refine OrdA.pure rfl rfl rfl rfl (fun _ => EV.slO rfl rfl rfl rfl rfl (by omega) (by omega) hroom) ?_
        (repeat (first | refine x_p (kk := ?_)))
        refine OrdA.pure rfl rfl rfl rfl (fun _ => EV.slO rfl rfl rfl rfl rfl (by omega) (by omega) hroom) ?_
        refine OrdA.eff rfl (fun w5 hb5 => ?_)
        have hB5 := hBg.kp (kpF hb5) (fun e => e)
        have hcl : cur.toList.length = c := by simpa using hcz
        have hcell : ∀ j v, (os.map eH)[j]? = some v → w5.cell? ⟨g, j, none⟩ = some v := fun j v hj => by
          have hjl : j < os.length := by have := (List.getElem?_eq_some_iff.1 hj).1; simpa using this
          rw [← htk, List.getElem?_take, if_pos hjl] at hj
          exact hB5.cell (by simpa using hj)
        refine Ops.cpB (cs := (os.drop i).map eH) (a := ⟨g, i, none⟩) rfl rfl rfl rfl rfl rfl rfl hB5 (by rw [List.length_map, hdl]; show _ = Min.min _ _; omega) (fun j v hj => by
          rw [add_lit]
          refine hcell _ v ?_
          rw [List.map_drop, List.getElem?_drop] at hj
          exact hj) (by rw [List.length_map, hdl]; omega) (fun v hv => by obtain ⟨u, _, rfl⟩ := List.mem_map.1 hv; rfl) (fun w6 hB6 k6 => Ops.nil (W.endl ?_))
        refine VW.Ord.nil ?_
        have hY6 := ((hYI.kp (kpF hb5) (fun _ e => e.elim)).sl (z := (default : HS)))
        have hY6 := Sl.kp hY6 k6 (fun b hb => by
          have : b = gy := by simp [Value.ownBlock] at hb; exact hb.symm
          omega)
        obtain ⟨hyl, Ay2, cy2, hey, hyc⟩ := hY6
        obtain ⟨ay, hay, hyc⟩ := hyc (by omega)
        simp only [Value.slice.injEq] at hey
        obtain ⟨rfl, _, rfl⟩ := hey
        simp only [Option.some.injEq] at hay
        subst hay
        have hml : ((os.drop i).map eH).length = os.length - i := by rw [List.length_map, hdl]
        rw [hml] at hB6
        (repeat (first | with_reducible refine W.seq ?_ | with_reducible refine W.region ?_ | refine z_p (kk := ?_)))
        refine z_ev (EV.slO rfl rfl rfl rfl rfl (by omega) (by omega) hroom) (kk := ?_)
        (repeat (first | refine z_p (kk := ?_)))
        refine Ops.cpB (cs := ys.map eH) (a := ⟨gy, 0, none⟩) rfl rfl rfl rfl rfl rfl rfl hB6 (by rw [List.length_map]; show _ = Min.min _ _; omega) (fun j v hj => by
          rw [List.getElem?_map] at hj
          cases hj2 : ys[j]? with
          | none => rw [hj2] at hj; simp at hj
          | some u =>
            rw [hj2] at hj
            simp only [Option.map_some, Option.some.injEq] at hj
            have hjl := (List.getElem?_eq_some_iff.1 hj2).1
            rw [hyc j hjl, List.getD_eq_getElem?_getD, hj2]
            exact congrArg some hj) (by rw [List.length_map]; simp; omega) (fun v hv => by obtain ⟨u, _, rfl⟩ := List.mem_map.1 hv; rfl) (fun w7 hB7 k7 => ?_)
        (repeat (first | with_reducible refine W.seq ?_ | with_reducible refine Ops.nil ?_ | with_reducible refine W.region ?_ | refine z_p (kk := ?_)))
        refine W.fret rfl ⟨⟨?_, hO.ge⟩, (((kpF hb5).trans k6).trans k7).mono (fun b _ e => by
          rcases e with (e | e) | e
          · exact e.elim
          · rw [e]; rfl
          · rw [e]; rfl), fun b hb => .inl hb⟩
        have hlf : (os.take i ++ ys ++ os.drop i).length = os.length + ys.length := by simp; omega
        refine ⟨by simp, .inr ⟨g, c, _, by rw [hlf]; rfl, Nat.zero_le _, hB7, by omega, hcm, ?_, ?_⟩⟩
        · simp [hcl]; omega
        · have hct : cur.toList.take i = (os.take i).map eH := by rw [List.map_take, ← htk, List.take_take, Nat.min_eq_left hi]
          have hl1 : (cur.toList.take (i + ys.length) ++ (os.drop i).map eH ++ cur.toList.drop (i + ys.length + (os.length - i))).take i = (os.take i).map eH := by
            rw [List.append_assoc, List.take_append_of_le_length (by simp [hcl]; omega), List.take_take, Nat.min_eq_left (by omega), hct]
          have hl2 : (cur.toList.take (i + ys.length) ++ (os.drop i).map eH ++ cur.toList.drop (i + ys.length + (os.length - i))).drop (i + ys.length) = (os.drop i).map eH ++ cur.toList.drop (i + ys.length + (os.length - i)) := by
            rw [List.append_assoc, List.drop_append_of_le_length (by simp [hcl]; omega), List.drop_of_length_le (by simp; omega), List.nil_append]
          rw [hlf]
          simp only [List.length_map, Nat.mul_one]
          rw [hl1, hl2, List.map_append, List.map_append]
          rw [← List.append_assoc, List.take_append_of_le_length (by simp; omega), List.take_of_length_le (by simp; omega)]
      · refine W.condT rfl (by first | rfl | assumption | (simp only [bnf] <;> omega) | (simp only [*, bnf]; done) | fail) ?_
        (repeat (first | with_reducible refine W.seq ?_ | with_reducible refine W.region ?_ | refine z_p (kk := ?_)))
        refine z_ev (EV.slH rfl rfl rfl rfl rfl (by omega) (by omega)) (kk := ?_)
        (repeat (first | refine z_p (kk := ?_) | refine z_a (kk := ?_)))
        rw [Int.toNat_natCast, show ((os.length : Int) + ys.length - i) = ((os.length + ys.length - i : Nat) : Int) by omega]
        have hOt := LO.take (h := i) hO hN rfl hi
        have hlt : (os.take i).length = i := by rw [List.length_take]; omega
        have hown := hOt.own
        rw [hlt] at hown
        refine Ops.appM (m := os.length + ys.length - i) (nn := i) (c := c) (g := g) (olds := (os.take i).map eH) rfl rfl rfl rfl rfl rfl rfl rfl rfl rfl rfl (by omega) (by omega) (by omega) (by omega) (by rw [List.length_map, hlt]) (hown.cells (g := g) rfl) (fun r c' w2 hr hO2 k2 => ?_)
        have hz0 : List.replicate (os.length + ys.length - i) (Value.slice none 0 0) = (List.replicate (os.length + ys.length - i) (default : HS)).map eH := by rw [List.map_replicate]; rfl
        rw [hz0, ← List.map_append] at hO2
        have hnm : i + (os.length + ys.length - i) = os.length + ys.length := by omega
        rw [hnm] at hO2 ⊢
        generalize hX : os.take i ++ List.replicate (os.length + ys.length - i) (default : HS) = X at hO2
        have hXl : X.length = os.length + ys.length := by rw [← hX]; simp; omega
        have hge2 : ∀ b, (Value.slice (some ⟨r, 0, none⟩) (os.length + ys.length) c').ownBlock = some b → w.heap.size ≤ b := fun b hb => by simp [Value.ownBlock] at hb; omega
        have hOx : OI 104 eH w w2 (.slice (some ⟨r, 0, none⟩) (os.length + ys.length) c') X := ⟨Below.put (Below.refl _ _) k2 (fun _ e => e.elim), by rw [hXl]; exact hO2, hge2⟩
        have hxc := own_cap hOx.own
        (repeat (first | with_reducible refine W.seq ?_ | with_reducible refine Ops.nil ?_ | with_reducible refine W.region ?_ | refine z_p (kk := ?_)))
        refine z_ev (EV.slO rfl rfl rfl rfl rfl (by omega) (by omega) hxc) (kk := ?_)
        (repeat (first | refine z_p (kk := ?_)))
        refine Ops.cpO (enc := eH) (z := default) rfl rfl rfl rfl rfl rfl rfl hOx (Sl.kp hYI.sl k2 (fun _ _ e => e)) (by omega) (by omega) (fun _ => rfl) (fun w3 hO3 k3 _ => ?_)
        have hm1 : Min.min ys.length (os.length + ys.length - i) = ys.length := by omega
        rw [hm1, List.take_of_length_le (show ys.length ≤ os.length + ys.length - i by omega)] at hO3
        generalize hY3 : X.take i ++ ys ++ X.drop (i + ys.length) = Y at hO3
        have hYl : Y.length = os.length + ys.length := by rw [← hY3]; simp; omega
        have hYt : Y.take (i + ys.length) = os.take i ++ ys := by
          have hXi : X.take i = os.take i := by rw [← hX, List.take_append_of_le_length (by rw [hlt]; omega), List.take_of_length_le (by omega)]
          rw [← hY3, hXi, List.take_append_of_le_length (by rw [List.length_append, hlt]; omega), List.take_of_length_le (by rw [List.length_append, hlt]; omega)]
        have hb03 : Below w.heap.size w w3 := hO3.bel
        (repeat (first | with_reducible refine W.seq ?_ | with_reducible refine Ops.nil ?_))
        refine W.ordA 8 [(0, 1), (1, 1), (2, 1), (3, 1), (4, 1), (5, 1), (6, 1), (7, 1), (8, 0)] rfl (by kernel_rfl) rfl (by kernel_rfl) (fun _ _ _ h => h) ?_
        (repeat (first | refine x_p (kk := ?_) | refine x_a (kk := ?_)))
        rw [show ((i : Int) + ys.length) = ((i + ys.length : Nat) : Int) by omega]
        refine OrdA.pure rfl rfl rfl rfl (fun _ => EV.slO rfl rfl rfl rfl rfl (by omega) (by omega) (by omega)) ?_
        (repeat (first | refine x_p (kk := ?_)))
        refine OrdA.pure rfl rfl rfl rfl (fun _ => EV.slE rfl rfl rfl rfl rfl hi) ?_
        refine OrdA.eff rfl (fun w5 hb5 => ?_)
        have hb05 := Below.via hb03 hb5
        have hRs : R1 (fun _ => False) w5 (.slice (some ⟨g, 0, none⟩) os.length c) os := OI.r1 (hOI.kp (kpF hb05) (fun _ e => e.elim)) (by omega) (fun _ _ e => e)
        have hsl5 := (hRs.drop hi).sl
        have hO5 := hO3.below hb5
        refine Ops.cpO (enc := eH) (z := default) rfl rfl rfl rfl rfl rfl rfl hO5 hsl5 (by omega) (by omega) (fun _ => rfl) (fun w6 hO6 k6 _ => Ops.nil (W.endl ?_))
        have hm2 : Min.min (os.drop i).length (os.length + ys.length - (i + ys.length)) = os.length - i := by omega
        rw [hm2, List.take_of_length_le (show (os.drop i).length ≤ os.length + ys.length - (i + ys.length) by omega), hYt, List.drop_of_length_le (show Y.length ≤ i + ys.length + (os.length - i) by omega), List.append_nil] at hO6
        refine VW.Ord.nil ?_
        (repeat (first | with_reducible refine W.seq ?_ | with_reducible refine Ops.nil ?_ | with_reducible refine W.region ?_ | refine z_p (kk := ?_)))
        exact W.fret rfl ⟨(LO.of hO6).down hN, (kpF hO6.bel).mono (fun _ _ e => e.elim), fun b hb => .inr (hO6.ge b hb)⟩
end Go.Proofs.YtcmjlmnfdncajaaGreatDoor
namespace Go.Proofs.YtcmjlmnfdncajaaGreatDoor
open Go Go.RowKit Go.Proofs.YtcmjlmnfdncajaaGreatDoor.VW Go.Proofs.YtcmjlmnfdncajaaGreatDoor.TW
attribute [local irreducible] W Ops OrdA VW.Ord OrdX Wi OpsI OrdF
def takeF : Fo → Nat → Fo
  | .nil, _ => .nil
  | .cons k r, 0 => .nil
  | .cons k r, i + 1 => .cons k (takeF r i)
theorem takeF_zero : ∀ f, takeF f 0 = .nil
  | .nil => rfl
  | .cons k r => rfl
theorem takeF_len : ∀ f, takeF f (lenF f) = f
  | .nil => rfl
  | .cons k r => by simp only [lenF, takeF, takeF_len r]
theorem takeF_succ : ∀ {f : Fo} {i : Nat} (t : Fo), i < lenF f → apF (takeF f (i + 1)) t = apF (takeF f i) (.cons (nthF f i) t)
  | .nil, i, t, h => by simp [lenF] at h
  | .cons k r, 0, t, _ => by simp [takeF, takeF_zero, nthF, apF]
  | .cons k r, i + 1, t, h => by
    have := takeF_succ (f := r) (i := i) t (by simp [lenF] at h; omega)
    simp only [takeF, apF, nthF] at this ⊢
    rw [this]
theorem HA_take {S : Nat → Prop} {w : World} : ∀ {f l} (i : Nat), HA S w f l → HA S w (takeF f i) (l.take i)
  | .nil, l, i, h => by
    have : l = [] := h
    subst this
    simp [takeF, HA]
  | .cons k r, l, 0, _ => by simp [takeF, HA]
  | .cons k r, l, i + 1, ⟨v, l', lk, h1, h2, h3, h4⟩ => by
    subst h1
    exact ⟨v, l'.take i, lk, rfl, h2, h3, HA_take i h4⟩
theorem HA_drop {S : Nat → Prop} {w : World} : ∀ {f l} (i : Nat), HA S w f l → HA S w (dropF f i) (l.drop i)
  | .nil, l, i, h => by
    have : l = [] := h
    subst this
    simp [dropF, HA]
  | .cons k r, l, 0, h => h
  | .cons k r, l, i + 1, ⟨v, l', lk, h1, h2, h3, h4⟩ => by
    subst h1
    exact HA_drop i h4
theorem HA_app {S : Nat → Prop} {w : World} : ∀ {f l}, HA S w f l → ∀ {f2 l2}, HA S w f2 l2 → HA S w (apF f f2) (l ++ l2)
  | .nil, l, h, f2, l2, h2 => by
    have : l = [] := h
    subst this
    exact h2
  | .cons k r, l, ⟨v, l', lk, h1, h3, h4, h5⟩, f2, l2, h2 => by
    subst h1
    exact ⟨v, l' ++ l2, lk, rfl, h3, h4, HA_app h5 h2⟩
theorem HA_cons {S : Nat → Prop} {w : World} {v : HS} {k r : Fo} {l : List HS} (hv : HM S w (eH v) k) (h : HA S w r l) : HA S w (.cons k r) (v :: l) := by
  obtain ⟨lk, h1, h2⟩ := hv
  exact ⟨v, l, lk, rfl, h1, h2, h⟩
theorem HA_rep {S : Nat → Prop} {w : World} {v : HS} {k r : Fo} {l : List HS} (hv : HM S w (eH v) k) (h : HA S w r l) : ∀ n, HA S w (repF n k r) (List.replicate n v ++ l)
  | 0 => h
  | n + 1 => by
    rw [List.replicate_succ, List.cons_append]
    exact HA_cons hv (HA_rep hv h n)
theorem szF_drop : ∀ (f : Fo) (i : Nat), szF (dropF f i) ≤ szF f
  | .nil, _ => Nat.le_refl _
  | .cons k r, 0 => Nat.le_refl _
  | .cons k r, i + 1 => by have := szF_drop r i; simp only [dropF, szF]; omega
set_option maxHeartbeats 8000000 in
theorem chopped_c : ∀ (n : Nat) {S' : Nat → Prop} {w : World} {v : Value} {f : Fo} {head cp : Nat}, szF f ≤ n → n ≤ 10000 → cp ≤ 1000 → head ≤ 1000000000 → (∀ i, S' i → i < w.heap.size) → HM S' w v f →
    Calls Tryz.prog 92 #[v, .int .i64 (head : Int), .int .i64 (cp : Int)] w (Ret fun r w' => ∃ v', r = .tuple #[v', .bool (chF f head cp).2] ∧ HM S' w' v' (chF f head cp).1 ∧ Below w.heap.size w w') := by
  intro n
  induction n using Nat.strongRecOn with
  | _ n ih =>
  intro S' w v f head cp hn hbig hcp hh hS hM
  obtain ⟨l, hR, hA⟩ := id hM
  have hl := hA.len
  have hls := lenF_sz f
  obtain ⟨A, c, rfl⟩ := hR.sh
  refine calls_W (vs := [_, _, _]) Tryz.func92 rfl (by kernel_rfl) rfl ?_
  (repeat (first | with_reducible refine W.seq ?_ | with_reducible refine Ops.nil ?_ | with_reducible refine W.region ?_ | refine z_p (kk := ?_) | with_reducible refine W.block ?_ | refine z_l (kk := ?_)))
  refine W.loop (fun m ρ w' => ∃ (i hd : Nat), m = l.length - i ∧ i ≤ l.length ∧ hd ≤ 1000000000 ∧ w' = w ∧ chF f head cp = (apF (takeF f i) (chF (dropF f i) hd cp).1, (chF (dropF f i) hd cp).2) ∧ ρ = [(0, .slice A l.length c), (1, .int .i64 (hd : Int)), (2, .int .i64 (cp : Int)), (14, .slice A l.length c), (15, .int .i64 l.length), (16, .int .i64 i)])
    ⟨_, _, ⟨0, head, rfl, Nat.zero_le _, hh, rfl, by rw [takeF_zero, dropF_zero]; rfl, rfl⟩, (by repeat (first | exact trivial | refine And.intro rfl ?_))⟩ ?_
  rintro m ρ w1 ⟨i, hd, rfl, hi, hhd, rfl, hch, rfl⟩
  have hb11 : Below w1.heap.size w1 w1 := Below.refl _ _
  (repeat (first | with_reducible refine W.seq ?_ | with_reducible refine Ops.nil ?_ | with_reducible refine W.region ?_ | refine z_p (kk := ?_)))
  (first | refine W.condD rfl (fun hc => ?_) (fun hc => ?_) | refine W.condE rfl (fun hc => ?_) (fun hc => ?_) | refine W.condN rfl (fun hc => ?_) (fun hc => ?_) | refine W.cond rfl (fun hc => ?_) (fun hc => ?_))
  · have hil : i < l.length := by omega
    have aM := hA.at_ (i := i) (by omega)
    have hsz := nthF_sz (f := f) (i := i) (by omega)
    have hks := heF_sz (nthF f i)
    rw [dropF_cons (by omega)] at hch
    generalize hva : l.getD i default = va at *
    (repeat (first | with_reducible refine W.seq ?_ | with_reducible refine Ops.nil ?_ | with_reducible refine W.region ?_ | refine z_p (kk := ?_) | with_reducible refine W.skip ?_ | with_reducible refine W.block ?_ | refine z_H (kk := fun _ => ?_)))
    rw [hva]
    refine Ops.callS rfl rfl rfl rfl rfl (heads_c _ (Nat.le_refl _) (by omega) aM) ?_
    (repeat (first | with_reducible refine W.seq ?_ | with_reducible refine Ops.nil ?_ | with_reducible refine W.region ?_ | refine z_p (kk := ?_) | refine z_M (kk := ?_)))
    rw [show (max (1 : Int) ((heF (nthF f i) : Nat) : Int)) = ((max 1 (heF (nthF f i)) : Nat) : Int) by omega]
    (first | refine W.condD rfl (fun hc => ?_) (fun hc => ?_) | refine W.condE rfl (fun hc => ?_) (fun hc => ?_) | refine W.condN rfl (fun hc => ?_) (fun hc => ?_) | refine W.cond rfl (fun hc => ?_) (fun hc => ?_))
    · have hge : max 1 (heF (nthF f i)) ≤ hd := by omega
      rw [chF_past hge] at hch
      (repeat (first | with_reducible refine W.seq ?_ | with_reducible refine Ops.nil ?_ | with_reducible refine W.region ?_ | refine z_p (kk := ?_) | refine z_a (kk := ?_) | refine W.exit rfl ?_))
      exact W.endl ⟨_, _, ⟨⟨i + 1, hd - max 1 (heF (nthF f i)), rfl, by omega, by omega, rfl, by rw [hch, takeF_succ _ (by omega)], by rw [show ((hd - max 1 (heF (nthF f i)) : Nat) : Int) = (hd : Int) - ((max 1 (heF (nthF f i)) : Nat) : Int) by omega]⟩, by omega⟩, (by repeat (first | exact trivial | refine And.intro rfl ?_))⟩
    · have hlt : ¬ max 1 (heF (nthF f i)) ≤ hd := by omega
      obtain ⟨lk, hRk, hAk⟩ := id aM
      have hlk := hAk.len
      obtain ⟨Ak, ck, hek⟩ := hRk.sh
      rw [hek]
      (repeat (first | with_reducible refine W.seq ?_ | with_reducible refine Ops.nil ?_ | with_reducible refine W.region ?_ | refine z_p (kk := ?_) | with_reducible refine W.skip ?_ | refine z_l (kk := ?_)))
      by_cases hk0 : lk.length = 0
      · have hkn : nthF f i = .nil := by
          cases hkk : nthF f i with
          | nil => rfl
          | cons a b => rw [hkk, lenF] at hlk; omega
        have hd0 : hd = 0 := by rw [hkn] at hlt; simp [heF] at hlt; omega
        subst hd0
        rw [hkn, chF_head] at hch
        refine W.condT rfl (by first | rfl | assumption | (simp only [bnf] <;> omega) | (simp only [*, bnf]; done) | fail) ?_
        (repeat (first | with_reducible refine W.seq ?_ | with_reducible refine W.region ?_ | refine z_p (kk := ?_)))
        refine Ops.call rfl rfl rfl rfl rfl (hclone_c hR (by omega)) (fun vc w2 hR2 => ?_)
        obtain ⟨hO2, hb12, _⟩ := hR2
        (repeat (first | refine z_p (kk := ?_) | refine z_a (kk := ?_)))
        refine Ops.call rfl rfl rfl rfl rfl (hdelete_c hO2 hb12.size hil (by omega)) (fun vd w3 hR3 => ?_)
        obtain ⟨hO3, k23, hown⟩ := hR3
        have hA1 : HA (fun i => S' i ∨ w1.heap.size ≤ i) w1 f l := hA.more (fun i h => h)
        have hA3 := (hA1.kp (kpF hb12) (fun _ e => e.elim)).kp k23 (fun b e => .inr (hO2.ge b e))
        have hA4 := HA_app (HA_take i hA3) (HA_drop (i + 1) hA3)
        have hb13 : Below w1.heap.size w1 w3 := Below.put hb12 k23 (fun b e => hO2.ge b e)
        (repeat (first | with_reducible refine Ops.nil ?_ | refine z_p (kk := ?_)))
        refine W.fret rfl ⟨vd, by rw [hch]; rfl, ?_, hb13⟩
        rw [hch]
        exact ⟨_, hO3.r1 hb13.size (by simp; omega) hS, hA4.more (fun i h => .inl (.inl h))⟩
      · have hkn : nthF f i ≠ .nil := fun e => by rw [e, show lenF .nil = 0 from rfl] at hlk; omega
        rw [chF_in hlt hkn] at hch
        refine W.condF rfl (by first | rfl | assumption | (simp only [bnf] <;> omega) | (simp only [*, bnf]; done) | fail) ?_
        (repeat (first | with_reducible refine W.seq ?_ | with_reducible refine W.region ?_ | refine z_p (kk := ?_) | with_reducible refine W.skip ?_))
        rw [← hek]
        refine Ops.call rfl rfl rfl rfl rfl (ih _ (show szF (nthF f i) < n by omega) (Nat.le_refl _) (by omega) hcp hhd hS aM) (fun r w2 hR2 => ?_)
        obtain ⟨lv, rfl, hM2, hb12⟩ := hR2
        obtain ⟨Al, cl, rfl⟩ := hM2.sh
        have hw12 := hb12.size
        (repeat (first | with_reducible refine W.seq ?_ | with_reducible refine Ops.nil ?_ | with_reducible refine W.region ?_ | refine z_p (kk := ?_)))
        refine Ops.call rfl rfl rfl rfl rfl (hclone_c (hR.below hb12) (by omega)) (fun vc w3 hR3 => ?_)
        obtain ⟨hO3, hb23, _⟩ := hR3
        have hw23 := hb23.size
        have hM2' : HM (fun i => S' i ∨ w2.heap.size ≤ i) w2 (eH (Al, lenF (chF (nthF f i) hd cp).1, cl)) (chF (nthF f i) hd cp).1 := hM2.more (fun i h => h)
        have hA2 : HA (fun i => S' i ∨ w2.heap.size ≤ i) w2 f l := HA.more (fun i h => h) (hA.kp (kpF hb12) (fun _ e => e.elim))
        have hM3 := hM2'.kp (kpF hb23) (fun _ e => e.elim)
        have hA3 := hA2.kp (kpF hb23) (fun _ e => e.elim)
        (repeat (first | with_reducible refine W.seq ?_ | with_reducible refine Ops.nil ?_ | with_reducible refine W.region ?_ | refine z_p (kk := ?_)))
        refine Ops.wrO (enc := eH) (u := (Al, lenF (chF (nthF f i) hd cp).1, cl)) rfl rfl rfl rfl rfl rfl rfl rfl rfl rfl rfl rfl (by simp) rfl (hO3.base hw23) hil (fun w4 p hO4 k34 hz4 => ?_)
        replace hO4 := LO.put hO4 hw23
        have hM4 := hM3.kp k34 (fun b e => .inr (hO3.ge b e))
        have hA4 := hA3.kp k34 (fun b e => .inr (hO3.ge b e))
        have hb14 : Below w1.heap.size w1 w4 := Below.put (Below.via hb12 hb23) k34 (fun b e => by have := hO3.ge b e; omega)
        have hls4 : (l.set i (Al, lenF (chF (nthF f i) hd cp).1, cl)).length = l.length := List.length_set ..
        obtain ⟨Ac, cc, hvc⟩ := hO3.sh
        have hset : (l.set i (Al, lenF (chF (nthF f i) hd cp).1, cl)).take i = l.take i := by rw [List.take_set_of_le (Nat.le_refl _)]
        have hset2 : (l.set i (Al, lenF (chF (nthF f i) hd cp).1, cl)).drop (i + 1) = l.drop (i + 1) := by rw [List.drop_set_of_lt (by omega)]
        have hset1 : (l.set i (Al, lenF (chF (nthF f i) hd cp).1, cl)).take (i + 1) = l.take i ++ [(Al, lenF (chF (nthF f i) hd cp).1, cl)] := by
          rw [List.take_add_one, hset, List.getElem?_set_self (by omega)]
          rfl
        (repeat (first | with_reducible refine W.seq ?_ | with_reducible refine Ops.nil ?_ | with_reducible refine W.region ?_ | refine z_p (kk := ?_)))
        cases hdir : (chF (nthF f i) hd cp).2 with
        | false =>
          rw [hdir] at hch
          refine W.condF rfl (by first | rfl | assumption | (simp only [bnf] <;> omega) | (simp only [*, bnf]; done) | fail) ?_
          (repeat (first | with_reducible refine W.seq ?_ | with_reducible refine Ops.nil ?_ | with_reducible refine W.region ?_ | refine z_p (kk := ?_) | with_reducible refine W.skip ?_))
          refine W.fret rfl ⟨vc, by rw [hch]; rfl, ?_, hb14⟩
          rw [hch]
          have hAf := HA_app (HA_take i hA4) (HA_cons hM4 (HA_drop (i + 1) hA4))
          have hlist : l.set i (Al, lenF (chF (nthF f i) hd cp).1, cl) = l.take i ++ (Al, lenF (chF (nthF f i) hd cp).1, cl) :: l.drop (i + 1) := by
            rw [← List.take_append_drop (i + 1) (l.set i (Al, lenF (chF (nthF f i) hd cp).1, cl)), hset1, hset2]
            simp
          rw [hlist] at hO4
          exact ⟨_, (hO4.down hw12).r1 hb14.size (by simp; omega) hS, hAf.more (fun i h => .inl (.inl h))⟩
        | true =>
          rw [hdir] at hch
          refine W.condT rfl (by first | rfl | assumption | (simp only [bnf] <;> omega) | (simp only [*, bnf]; done) | fail) ?_
          (repeat (first | with_reducible refine W.region ?_ | refine z_p (kk := ?_) | refine z_a (kk := ?_)))
          refine Ops.bs1 rfl rfl rfl rfl rfl rfl rfl rfl rfl (fun w5 r hMs => ?_)
          have hb45 := Mk.bel hMs
          have hw4 := hb14.size
          have hw34 := k34.size
          have B5 : Blk w5 r #[.slice Al (lenF (chF (nthF f i) hd cp).1) cl] 104 := hMs.at_
          have hsl5 : Sl eH default w5 (.slice (some ⟨r, 0, none⟩) 1 1) [(Al, lenF (chF (nthF f i) hd cp).1, cl)] := ⟨by simp, _, _, rfl, fun _ => ⟨_, rfl, fun j hj => by
            have : j = 0 := by simpa using hj
            subst this
            exact B5.cell rfl⟩⟩
          (repeat (first | refine z_p (kk := ?_)))
          refine Ops.call rfl rfl rfl rfl rfl (hrepeat_c hsl5 hcp) (fun yv w6 hR6 => ?_)
          obtain ⟨hY6, hb56⟩ := hR6
          have hb46 := Below.via hb45 hb56
          have hw46 := hb46.size
          have hw45 := hb45.size
          have hO6 := hO4.below hb46
          have hyN := hY6.ge
          skip
          rw [show ((i : Int) + 1) = ((i + 1 : Nat) : Int) by omega]
          refine Ops.call rfl rfl rfl rfl rfl (hinsert_c (N := w2.heap.size) hO6 (hY6.down (by omega)) (by omega) (fun b hb e => by have := hyN b e; have := (hO4.own.lt b hb).2; omega) (by rw [hls4]; omega) (by rw [hls4]; omega) (by rw [List.length_replicate]; omega)) (fun vr w7 hR7 => ?_)
          obtain ⟨hO7, k67, hn7⟩ := hR7
          have hb17 : Below w1.heap.size w1 w7 := Below.put (Below.via hb14 hb46) k67 (fun b e => by have := hO6.ge b e; omega)
          have hM7 := (hM4.kp (kpF hb46) (fun _ e => e.elim)).kp k67 (fun b e => .inr (hO6.ge b e))
          have hA7 := (hA4.kp (kpF hb46) (fun _ e => e.elim)).kp k67 (fun b e => .inr (hO6.ge b e))
          rw [hset1, hset2] at hO7
          (repeat (first | with_reducible refine W.seq ?_ | with_reducible refine Ops.nil ?_ | with_reducible refine W.region ?_ | refine z_p (kk := ?_)))
          refine W.fret rfl ⟨vr, by rw [hch]; rfl, ?_, hb17⟩
          rw [hch]
          have hAf := HA_app (HA_take i hA7) (HA_cons hM7 (HA_rep hM7 (HA_drop (i + 1) hA7) cp))
          have hlist : l.take i ++ [(Al, lenF (chF (nthF f i) hd cp).1, cl)] ++ List.replicate cp (Al, lenF (chF (nthF f i) hd cp).1, cl) ++ l.drop (i + 1) = l.take i ++ (Al, lenF (chF (nthF f i) hd cp).1, cl) :: (List.replicate cp (Al, lenF (chF (nthF f i) hd cp).1, cl) ++ l.drop (i + 1)) := by simp
          rw [hlist] at hO7
          exact ⟨_, (hO7.down hw12).r1 hb17.size (by simp; omega) hS, hAf.more (fun i h => .inl (.inl h))⟩
  · have hil : i = l.length := by omega
    subst hil
    rw [hl, dropF_len] at hch
    have hch2 : chF f head cp = (f, false) := by
      rw [hch, show chF .nil hd cp = (.nil, false) from rfl]
      simp only [apF_nil, takeF_len]
    (repeat (first | with_reducible refine W.seq ?_ | with_reducible refine Ops.nil ?_ | with_reducible refine W.region ?_ | refine z_p (kk := ?_) | refine W.exit rfl ?_))
    refine W.fret rfl ⟨_, by rw [hch2]; rfl, ?_, Below.refl _ _⟩
    rw [hch2]
    exact hM
end Go.Proofs.YtcmjlmnfdncajaaGreatDoor
namespace Go.Proofs.YtcmjlmnfdncajaaGreatDoor
open Go Go.RowKit Go.Proofs.YtcmjlmnfdncajaaGreatDoor.VW Go.Proofs.YtcmjlmnfdncajaaGreatDoor.TW
attribute [local irreducible] W Ops OrdA VW.Ord OrdX Wi OpsI OrdF
theorem chF_sz : ∀ (m : Nat) (f : Fo) (h n : Nat), szF f ≤ m → szF (chF f h n).1 ≤ (n + 1) * szF f ∧ ((chF f h n).2 = true → szF (chF f h n).1 ≤ szF f) := by
  intro m
  induction m with
  | zero =>
    intro f h n hm
    cases f with
    | nil => exact ⟨by simp [chF, szF], fun _ => by simp [chF, szF]⟩
    | cons k r => simp [szF] at hm
  | succ m ih =>
    intro f h n hm
    cases f with
    | nil => exact ⟨by simp [chF, szF], fun _ => by simp [chF, szF]⟩
    | cons k r =>
      simp only [szF] at hm ⊢
      rw [Nat.mul_add, Nat.mul_add, Nat.mul_one]
      have e1 : szF r ≤ (n + 1) * szF r := Nat.le_mul_of_pos_left _ (by omega)
      have e2 : szF k ≤ (n + 1) * szF k := Nat.le_mul_of_pos_left _ (by omega)
      by_cases hp : max 1 (heF k) ≤ h
      · rw [chF_past hp]
        obtain ⟨i1, i2⟩ := ih r (h - max 1 (heF k)) n (by omega)
        simp only [szF]
        exact ⟨by omega, fun hd => by have := i2 hd; omega⟩
      · by_cases hk : k = .nil
        · subst hk
          have h0 : h = 0 := by simp [heF] at hp; omega
          subst h0
          rw [chF_head]
          simp only [szF]
          exact ⟨by omega, fun _ => by omega⟩
        · rw [chF_in hp hk]
          obtain ⟨i1, i2⟩ := ih k h n (by omega)
          simp only [szF]
          refine ⟨?_, fun hd => by cases hd⟩
          by_cases hd : (chF k h n).2 = true
          · rw [if_pos hd, repF_sz]
            have i3 := i2 hd
            have i4 : n * (1 + szF (chF k h n).1) ≤ n * (1 + szF k) := Nat.mul_le_mul_left _ (by omega)
            have i5 : (n + 1) * szF k = n * szF k + szF k := Nat.succ_mul _ _
            rw [Nat.mul_add, Nat.mul_one] at i4
            rw [Nat.mul_add, Nat.mul_one] at *
            omega
          · rw [if_neg hd]
            omega
set_option maxHeartbeats 4000000 in
theorem Chop1_c {w : World} {b0 b1 b2 b3 : Nat} {s : List UInt8} {head n : Int} (hs : s.length ≤ 4294967295)
    (B0 : Blk w b0 #[S s] 9) (B1 : Blk w b1 #[.int .i64 head] 3) (B2 : Blk w b2 #[.int .i64 n] 3) (B3 : Blk w b3 #[S []] 9) :
    Calls Tryz.prog 91 #[.pointer (some ⟨b0, 0, none⟩), .pointer (some ⟨b1, 0, none⟩), .pointer (some ⟨b2, 0, none⟩), .pointer (some ⟨b3, 0, none⟩)] w
      (RetP (fun _ w' => Kp (fun i => i = b3) w w' ∧ ∃ x, chopR s head n = .ok x ∧ Blk w' b3 #[S x] 9) (fun ch w' => ∃ e, ch = trb e ∧ Kp (fun i => i = b3) w w' ∧ chopR s head n = .error e ∧ Kp (fun _ => False) w w')) := by
  refine calls_WP (vs := [_, _, _, _]) Tryz.func91 rfl (by kernel_rfl) rfl ?_
  (repeat (first | with_reducible refine W.seq ?_ | with_reducible refine W.region ?_ | refine z_d (kk := ?_)))
  refine Ops.callP rfl rfl rfl rfl rfl (readHydra_c hs) (fun va w1 hR => ?_) (fun ch w1 hR => ?_)
  rotate_left
  · obtain ⟨rfl, h1, hb1⟩ := hR
    exact ⟨4, rfl, (kpF hb1).mono (fun _ _ e => e.elim), by unfold chopR; rw [h1], kpF hb1⟩
  obtain ⟨f, hf, hM, hb1⟩ := hR
  have hfz := rdHA_sz hf
  have hhz := heF_sz f
  have hfail : ¬ ((0 ≤ head ∧ head ≤ (heF f : Int) - 1) ∧ 0 ≤ n ∧ n ≤ 1000) → chopR s head n = .error 2 := fun h => by
    unfold chopR
    rw [hf]
    simp only
    rw [if_neg h]
  (repeat (first | with_reducible refine W.seq ?_ | with_reducible refine Ops.nil ?_ | refine z_p (kk := ?_)))
  refine W.ordF (fun wf => Kp (fun _ => False) w wf ∧ Blk wf b1 #[.int .i64 head] 3 ∧ Blk wf b2 #[.int .i64 n] 3 ∧ HM (fun i => i < w.heap.size) wf va f) [0, 1, 2, 3, 4, 5, 6, 7, 8, 9] rfl (by kernel_rfl) rfl (fun _ _ _ h => h) (fun w2 k2 _ => ?_)
  have hF2 : Kp (fun _ => False) w w2 ∧ Blk w2 b1 #[.int .i64 head] 3 ∧ Blk w2 b2 #[.int .i64 n] 3 ∧ HM (fun i => i < w.heap.size) w2 va f := ⟨((kpF hb1).trans k2).mono (fun _ _ e => by rcases e with e | e <;> exact e), (B1.kp (kpF hb1) (fun e => e)).kp k2 (fun e => e), (B2.kp (kpF hb1) (fun e => e)).kp k2 (fun e => e), hM.kp k2 (fun _ e => e.elim)⟩
  refine ⟨hF2, ?_⟩
  refine OrdF.take (by kernel_rfl) rfl rfl rfl rfl (fun w hF => EV.ld rfl rfl rfl (Blk.cell hF.2.1 rfl)) ?_
  refine OrdF.take (by kernel_rfl) rfl rfl rfl rfl (fun w hF => EV.pu rfl) ?_
  refine OrdF.one 2 (by kernel_rfl) rfl (Ops.callS rfl rfl rfl rfl rfl (heads_c _ (Nat.le_refl _) (by omega) hF2.2.2.2) (Ops.nil (W.endl ⟨hF2, ?_⟩)))
  refine OrdF.take (by kernel_rfl) rfl rfl rfl rfl (fun w hF => EV.ar rfl (by omega)) ?_
  refine OrdF.one 4 (by kernel_rfl) rfl (Ops.callS rfl rfl rfl rfl rfl (within_c _ _ _ _) (Ops.nil (W.endl ⟨hF2, ?_⟩)))
  by_cases h1 : 0 ≤ head ∧ head ≤ (heF f : Int) - 1
  · rw [decide_eq_true h1]
    refine OrdF.take (by kernel_rfl) rfl rfl rfl rfl (fun w hF => EV.pu rfl) ?_
    refine OrdF.take (by kernel_rfl) rfl rfl rfl rfl (fun w hF => EV.ld rfl rfl rfl (Blk.cell hF.2.2.1 rfl)) ?_
    refine OrdF.one 7 (by kernel_rfl) rfl (Ops.yesB rfl rfl rfl rfl rfl (Ops.callS rfl rfl rfl rfl rfl (within_c _ _ _ _) (Ops.nil (W.endl ⟨hF2, ?_⟩))))
    refine OrdF.take (by kernel_rfl) rfl rfl rfl rfl (fun w hF => EV.pickT rfl rfl rfl rfl) ?_
    refine OrdF.one 9 (by kernel_rfl) rfl (Ops.callP rfl rfl rfl rfl rfl (demand_c _ _ _) (fun r w3 hR => ?_) (fun ch w3 hR => ?_))
    rotate_left
    · obtain ⟨hb, rfl, rfl⟩ := hR
      have h2 := of_decide_eq_false hb
      exact ⟨2, rfl, hF2.1.mono (fun _ _ e => e.elim), hfail (fun h => h2 h.2), hF2.1⟩
    obtain ⟨hb, hw⟩ := hR
    subst w3
    have h2 := of_decide_eq_true hb
    clear hb
    refine Ops.nil (W.endl ⟨hF2, ?_⟩)
    refine OrdF.done (by kernel_rfl) ?_
    obtain ⟨k02, B12, B22, hM2⟩ := hF2
    obtain ⟨hd, rfl⟩ : ∃ hd : Nat, head = (hd : Int) := ⟨head.toNat, by omega⟩
    obtain ⟨cp, rfl⟩ : ∃ cp : Nat, n = (cp : Int) := ⟨n.toNat, by omega⟩
    have hchop : chopR s (hd : Int) (cp : Int) = if 1 + szF (chF f hd cp).1 ≤ 200 then .ok (txH (chF f hd cp).1) else .error 5 := by
      unfold chopR
      rw [hf]
      simp only
      rw [if_pos ⟨h1, h2⟩, Int.toNat_natCast, Int.toNat_natCast]
    have hbz : Below w2.heap.size w2 w2 := Below.refl _ _
    (repeat (first | with_reducible refine W.seq ?_ | with_reducible refine W.region ?_ | refine z_p (kk := ?_) | refine z_d (kk := ?_)))
    refine Ops.call rfl rfl rfl rfl rfl (chopped_c _ (Nat.le_refl _) (by omega) (by omega) (by omega) (fun i hi => by have := k02.size; omega) hM2) (fun r w3 hR => ?_)
    obtain ⟨vl, rfl, hM3, hb23⟩ := hR
    (repeat (first | with_reducible refine W.seq ?_ | with_reducible refine Ops.nil ?_ | with_reducible refine W.region ?_ | refine z_p (kk := ?_)))
    have hszl : szF (chF f hd cp).1 ≤ 1000000 := by
      have h3 := (chF_sz _ f hd cp (Nat.le_refl _)).1
      have h4 : (cp + 1) * szF f ≤ 1001 * 200 := Nat.mul_le_mul (by omega) (by omega)
      omega
    refine Ops.callS rfl rfl rfl rfl rfl (hsize_c _ (Nat.le_refl _) (by omega) hM3) ?_
    (repeat (first | refine z_p (kk := ?_)))
    refine Ops.callP rfl rfl rfl rfl rfl (demand_c _ _ _) (fun r w4 hR => ?_) (fun ch w4 hR => ?_)
    rotate_left
    · obtain ⟨hb, rfl, rfl⟩ := hR
      have h3 := of_decide_eq_false hb
      have k03 : Kp (fun _ => False) w w4 := (k02.trans (kpF hb23)).mono (fun _ _ e => by rcases e with e | e <;> exact e)
      exact ⟨5, rfl, k03.mono (fun _ _ e => e.elim), by rw [hchop, if_neg (by omega)], k03⟩
    obtain ⟨hb, hw⟩ := hR
    subst w4
    have h3 := of_decide_eq_true hb
    have k03 : Kp (fun _ => False) w w3 := (k02.trans (kpF hb23)).mono (fun _ _ e => by rcases e with e | e <;> exact e)
    have B33 := B3.kp k03 (fun e => e)
    (repeat (first | with_reducible refine Ops.nil ?_ | with_reducible refine W.region ?_ | refine z_p (kk := ?_)))
    refine Ops.callS rfl rfl rfl rfl rfl (htext_c _ (Nat.le_refl _) (by omega) hM3) ?_
    refine Ops.st rfl rfl rfl rfl rfl rfl rfl B33 (by simp) (fun w5 hu => ?_)
    (repeat (first | with_reducible refine Ops.nil ?_))
    exact W.fendP rfl ⟨(k03.trans hu.kp).mono (fun _ _ e => by rcases e with e | e; exact e.elim; exact e), txH (chF f hd cp).1, by rw [hchop, if_pos (by omega)], by simpa using hu.blk⟩
  · rw [decide_eq_false h1]
    refine OrdF.take (by kernel_rfl) rfl rfl rfl rfl (fun w hF => EV.pu rfl) ?_
    refine OrdF.noF (by kernel_rfl) rfl rfl rfl rfl ?_
    refine OrdF.noF (by kernel_rfl) rfl rfl rfl rfl ?_
    refine OrdF.take (by kernel_rfl) rfl rfl rfl rfl (fun w hF => EV.pickF rfl rfl rfl rfl) ?_
    refine OrdF.one 9 (by kernel_rfl) rfl (Ops.callP rfl rfl rfl rfl rfl (demand_c _ _ _) (fun r w3 hR => ?_) (fun ch w3 hR => ?_))
    · exact absurd hR.1 (by simp)
    · obtain ⟨hb, rfl, rfl⟩ := hR
      exact ⟨2, rfl, hF2.1.mono (fun _ _ e => e.elim), hfail (fun h => h1 h.1), hF2.1⟩
theorem Chop_c {w : World} {s : List UInt8} {head n : Int} (hs : s.length ≤ 4294967295) :
    Calls Tryz.prog 45 #[S s, .int .i64 head, .int .i64 n] w (Ret fun r w' => r = .tuple #[S (outS (chopR s head n)), .int .i64 (outE (chopR s head n))] ∧ Below w.heap.size w w') := by
  refine calls_W (vs := [_, _, _]) Tryz.func45 rfl (by kernel_rfl) rfl ?_
  (repeat (first | with_reducible refine W.seq ?_ | with_reducible refine W.region ?_))
  refine Ops.box rfl rfl rfl rfl (fun w1 b0 hM1 => ?_)
  refine Ops.box rfl rfl rfl rfl (fun w2 b1 hM2 => ?_)
  refine Ops.box rfl rfl rfl rfl (fun w3 b2 hM3 => ?_)
  refine Ops.alloc rfl rfl rfl rfl (fun w4 b3 hM4 => ?_)
  have hb34 := Mk.bel hM4
  have hb24 := Below.via (Mk.bel hM3) hb34
  have hb14 := Below.via (Mk.bel hM2) hb24
  have hb04 := Below.via (Mk.bel hM1) hb14
  have B0 : Blk w4 b0 #[S s] 9 := Blk.kp (w := w1) (hM1.at_) (kpF hb14) (fun e => e)
  have B1 : Blk w4 b1 #[.int .i64 head] 3 := Blk.kp (w := w2) (hM2.at_) (kpF hb24) (fun e => e)
  have B2 : Blk w4 b2 #[.int .i64 n] 3 := Blk.kp (w := w3) (hM3.at_) (kpF hb34) (fun e => e)
  have B3 : Blk w4 b3 #[S []] 9 := hM4.at_
  have e3 := hM4.r_eq
  have s1 := (Mk.bel hM1).size
  have s2 := hb14.size
  have s3 := hb24.size
  have l3 := B3.lt
  have hw03 := (Below.via (Mk.bel hM1) (Below.via (Mk.bel hM2) (Mk.bel hM3))).size
  (repeat (first | with_reducible refine W.seq ?_ | with_reducible refine Ops.nil ?_ | with_reducible refine W.region ?_ | refine z_p (kk := ?_)))
  refine Ops.call rfl rfl rfl rfl rfl (guard_c (F := 91) (caps := [.pointer (some ⟨b0, 0, none⟩), .pointer (some ⟨b1, 0, none⟩), .pointer (some ⟨b2, 0, none⟩), .pointer (some ⟨b3, 0, none⟩)]) (T := fun i => i = b3) (N := fun _ w' => ∃ x, chopR s head n = .ok x ∧ Blk w' b3 #[S x] 9) (E' := fun w1 w' e => chopR s head n = .error e ∧ Kp (fun _ => False) w1 w') rfl (fun i h => by omega) (fun w5 hlt hb5 => Chop1_c hs (B0.kp (kpF hb5) (fun e => e)) (B1.kp (kpF hb5) (fun e => e)) (B2.kp (kpF hb5) (fun e => e)) (B3.kp (kpF hb5) (fun e => e)))) (fun r w' hR => ?_)
  obtain ⟨w5, w6, hlt, hb5, k56, k67, hor⟩ := hR
  have hfin : ∃ x e, x = outS (chopR s head n) ∧ e = outE (chopR s head n) ∧ r = .int .i64 e ∧ Blk w' b3 #[S x] 9 := by
    rcases hor with ⟨rfl, x, h1, h2⟩ | ⟨e, rfl, h1, h2⟩
    · exact ⟨x, 0, by rw [h1]; rfl, by rw [h1]; rfl, rfl, h2.kp k67 (fun h => by omega)⟩
    · exact ⟨[], e, by rw [h1]; rfl, by rw [h1]; rfl, rfl, ((B3.kp (kpF hb5) (fun e => e)).kp h2 (fun e => e)).kp k67 (fun h => by omega)⟩
  obtain ⟨x, e, hx, he, rfl, B3'⟩ := hfin
  have hb0' : Below w.heap.size w w' := Below.put (Below.put (Below.via hb04 hb5) k56 (fun i h => by omega)) k67 (fun i h => by omega)
  have hbww : Below w'.heap.size w' w' := Below.refl _ _
  rw [← hx, ← he]
  (repeat (first | with_reducible refine W.seq ?_ | with_reducible refine Ops.nil ?_ | with_reducible refine W.region ?_ | refine z_p (kk := ?_) | refine z_d (kk := ?_)))
  refine Ops.st rfl rfl rfl rfl rfl rfl rfl B3' (by simp) (fun w7 hu => ?_)
  have B7 : Blk w7 b3 #[S x] 9 := by simpa using hu.blk
  (repeat (first | with_reducible refine Ops.nil ?_ | refine z_p (kk := ?_)))
  exact W.fretW (vs := [_, _]) ⟨_, _, rfl, ⟨b3, 0, _, 9, rfl, rfl, B7, rfl⟩, _, _, rfl, rfl, rfl⟩ ⟨rfl, Below.put hb0' hu.kp (fun i h => by omega)⟩
end Go.Proofs.YtcmjlmnfdncajaaGreatDoor
namespace Go.Proofs.YtcmjlmnfdncajaaGreatDoor
open Go Go.RowKit Go.Proofs.YtcmjlmnfdncajaaGreatDoor.VW Go.Proofs.YtcmjlmnfdncajaaGreatDoor.TW
attribute [local irreducible] W Ops OrdA VW.Ord OrdX Wi OpsI OrdF
theorem ints_c {w : World} {v1 v2 : Value} {xs ys : List Int} (h1 : SlI w v1 xs) (h2 : SlI w v2 ys) :
    Calls Tryz.prog 42 #[v1, v2] w (Ret fun r w' => r = .bool (decide (xs = ys)) ∧ Below w.heap.size w w') := by
  have hl1 := Sl.len h1
  have hl2 := Sl.len h2
  obtain ⟨A, c, rfl⟩ := Sl.shape h1
  obtain ⟨B, d, rfl⟩ := Sl.shape h2
  refine calls_W (vs := [_, _]) Tryz.func42 rfl (by kernel_rfl) rfl ?_
  by_cases hl : xs.length = ys.length
  · (repeat (first | with_reducible refine W.seq ?_ | with_reducible refine Ops.nil ?_ | with_reducible refine W.region ?_ | refine z_p (kk := ?_) | refine z_l (kk := ?_)))
    refine W.condF rfl (by first | rfl | assumption | (simp only [bnf] <;> omega) | (simp only [*, bnf]; done) | fail) ?_
    (repeat (first | with_reducible refine W.seq ?_ | with_reducible refine Ops.nil ?_ | with_reducible refine W.region ?_ | refine z_p (kk := ?_) | with_reducible refine W.skip ?_ | with_reducible refine W.block ?_))
    refine W.loop (fun m ρ w1 => ∃ (i : Nat), m = xs.length - i ∧ i ≤ xs.length ∧ ρ = [(0, .slice A xs.length c), (1, .slice B ys.length d), (5, .int .i64 i)] ∧ Below w.heap.size w w1 ∧ ∀ j : Nat, j < i → xs.getD j 0 = ys.getD j 0)
      ⟨_, _, ⟨0, rfl, Nat.zero_le _, rfl, Below.refl _ _, fun j hj => by omega⟩, (by repeat (first | exact trivial | refine And.intro rfl ?_))⟩ ?_
    rintro m ρ w1 ⟨i, rfl, hi, rfl, hb1, heq⟩
    (repeat (first | with_reducible refine W.seq ?_ | with_reducible refine Ops.nil ?_ | with_reducible refine W.region ?_ | refine z_p (kk := ?_) | refine z_l (kk := ?_)))
    (first | refine W.condD rfl (fun hc => ?_) (fun hc => ?_) | refine W.condE rfl (fun hc => ?_) (fun hc => ?_) | refine W.condN rfl (fun hc => ?_) (fun hc => ?_) | refine W.cond rfl (fun hc => ?_) (fun hc => ?_))
    · have hil : i < xs.length := by omega
      (repeat (first | with_reducible refine W.seq ?_ | with_reducible refine W.skip ?_ | with_reducible refine W.block ?_))
      refine W.ordA 99 [(0, 1), (1, 1), (2, 1), (3, 2), (4, 1), (5, 1), (6, 1), (7, 2), (8, 1)] rfl (by kernel_rfl) rfl (by kernel_rfl) (fun _ _ _ h => h) ?_
      (repeat (first | refine x_p (kk := ?_) | refine x_I (kk := fun _ => ?_)))
      refine OrdA.nil (fun w2 hb2 => ?_)
      have hb02 := Below.via hb1 hb2
      by_cases e : xs.getD i 0 = ys.getD i 0
      · skip
        refine W.condF rfl (by first | rfl | assumption | (simp only [bnf] <;> omega) | (simp only [*, bnf]; done) | fail) ?_
        (repeat (first | with_reducible refine Ops.nil ?_ | with_reducible refine W.region ?_ | refine z_p (kk := ?_) | refine z_a (kk := ?_) | with_reducible refine W.skip ?_ | with_reducible refine W.endb ?_))
        exact W.endl ⟨_, _, ⟨⟨i + 1, rfl, by omega, rfl, hb02, fun j hj => by
          by_cases e2 : j = i
          · rw [e2]; exact e
          · exact heq j (by omega)⟩, by omega⟩, (by repeat (first | exact trivial | refine And.intro rfl ?_))⟩
      · skip
        refine W.condT rfl (by first | rfl | assumption | (simp only [bnf] <;> omega) | (simp only [*, bnf]; done) | fail) ?_
        (repeat (first | with_reducible refine W.seq ?_ | with_reducible refine Ops.nil ?_ | with_reducible refine W.region ?_ | refine z_p (kk := ?_)))
        exact W.fret rfl ⟨by rw [decide_eq_false (fun h => e (by rw [h]))]; rfl, hb02⟩
    · have hil : i = xs.length := by omega
      (repeat (first | with_reducible refine W.seq ?_ | with_reducible refine Ops.nil ?_ | with_reducible refine W.region ?_ | refine z_p (kk := ?_) | refine W.exit rfl ?_))
      refine W.fret rfl ⟨?_, hb1⟩
      rw [decide_eq_true]
      · rfl
      · refine List.ext_getElem hl (fun j h1 h2 => ?_)
        have := heq j (by omega)
        simpa [List.getD_eq_getElem?_getD, h1, h2] using this
  · (repeat (first | with_reducible refine W.seq ?_ | with_reducible refine Ops.nil ?_ | with_reducible refine W.region ?_ | refine z_p (kk := ?_) | refine z_l (kk := ?_)))
    refine W.condT rfl (by first | rfl | assumption | (simp only [bnf] <;> omega) | (simp only [*, bnf]; done) | fail) ?_
    (repeat (first | with_reducible refine W.seq ?_ | with_reducible refine Ops.nil ?_ | with_reducible refine W.region ?_ | refine z_p (kk := ?_)))
    exact W.fret rfl ⟨by rw [decide_eq_false (fun h => hl (by rw [h]))]; rfl, Below.refl _ _⟩
theorem wrap_u (x : Int) : IntKind.u64.wrap x = x % 18446744073709551616 := by
  simp [IntKind.wrap, IntKind.bits, IntKind.signed]
theorem wrap_i {x : Int} (h0 : 0 ≤ x) (h1 : x < 9223372036854775808) : IntKind.i64.wrap x = x := by
  have : x % 18446744073709551616 = x := by omega
  simp [IntKind.wrap, IntKind.bits, IntKind.signed, this]
  omega
def modI (x n : Int) : Int := x % 18446744073709551616 % n
theorem modI_bd (x : Int) {n : Int} (h : 0 < n) : 0 ≤ modI x n ∧ modI x n < n := ⟨Int.emod_nonneg _ (by omega), Int.emod_lt_of_pos _ h⟩
theorem mod_c (x n : Int) (w : World) (h0 : 0 < n) (h1 : n < 9223372036854775808) : Calls Tryz.prog 16 #[.int .i64 x, .int .i64 n] w (Ret fun r w' => r = .int .i64 (modI x n) ∧ w' = w) := by
  refine calls_W (vs := [_, _]) Tryz.func16 rfl (by kernel_rfl) rfl ?_
  (repeat (first | with_reducible refine W.seq ?_ | with_reducible refine Ops.nil ?_ | with_reducible refine W.region ?_ | refine z_p (kk := ?_)))
  refine Ops.cv rfl rfl rfl rfl rfl rfl ?_
  (repeat (first | refine z_p (kk := ?_)))
  refine Ops.cv rfl rfl rfl rfl rfl rfl ?_
  have hn : IntKind.u64.wrap n = n := by rw [wrap_u]; omega
  refine Ops.remK rfl rfl rfl rfl rfl (by rw [hn]; omega) ?_
  refine Ops.cv rfl rfl rfl rfl rfl rfl ?_
  (repeat (first | with_reducible refine Ops.nil ?_ | refine z_p (kk := ?_)))
  refine W.fret rfl ⟨?_, rfl⟩
  have hb := modI_bd x h0
  show Value.int .i64 _ = _
  rw [hn, wrap_u, Int.tmod_eq_emod_of_nonneg (Int.emod_nonneg _ (by omega))]
  exact congrArg _ (wrap_i hb.1 (Int.lt_trans hb.2 h1))
/-! What awake asks. -/
def sOne : List UInt8 := [119, 94, 40, 48, 41, 42, 49]
def sOm : List UInt8 := [119, 94, 40, 119, 94, 40, 48, 41, 42, 49, 41, 42, 49]
theorem aw_sum : bothR (fun a b => fullG (addC a b)) sOne sOm = .ok sOm := by rfl
theorem aw_des : outE (desR sOm 3) = 0 ∧ (outL (desR sOm 3)).length = 5 := by decide +kernel
theorem aw_chop : chopR [40, 40, 40, 41, 41, 41] 0 2 = .ok [40, 40, 41, 40, 41, 40, 41, 41] := by rfl
theorem big_small {b m : Nat} (hb : 2 ≤ b) (hb2 : b ≤ 10) (hm : m < 4) : bigT (lif b m) = false := by
  have h1 := lif_most hb m m (Nat.le_refl _)
  have h2 := most_top (lif b m)
  have h3 := lif_sz hb (K := 2) (k := 2) (m := m) (by omega) (fun i hi => by
    have := lif_sz hb (K := 1) (k := 1) (m := i) (by omega) (fun j hj => by
      have : j = 0 := by omega
      subst this
      rw [lif_zero]; exact Nat.le_refl _)
    omega)
  exact decide_eq_false (by omega)
theorem bmp23 : bmp 2 3 = 4 := by
  have h0 : bmp 2 0 = 0 := bmp_zero
  have h1 : bmp 2 1 = 1 := bmp_small (by omega) (by omega)
  rw [bmp_eq (by omega), sumD_pos (by omega) (by omega), h0, sumD_pos (by omega) (by omega), h1, sumD_zero]
theorem bmp33 : bmp 3 3 = 4 := by
  have h0 : bmp 3 0 = 0 := bmp_zero
  have h1 : bmp 3 1 = 1 := bmp_small (by omega) (by omega)
  rw [bmp_eq (by omega), sumD_pos (by omega) (by omega), h0, sumD_pos (by omega) (by omega), h1, sumD_zero]
theorem aw_good : outE (goodR 3 5) = 0 ∧ (outG (goodR 3 5)).1 = [3, 3, 3, 2, 1, 0] := by
  have e1 := bmp23
  have e2 := bmp33
  have e3 : bmp 4 3 = 3 := bmp_small (by omega) (by omega)
  have e4 : bmp 5 2 = 2 := bmp_small (by omega) (by omega)
  have e5 : bmp 6 1 = 1 := bmp_small (by omega) (by omega)
  have g0 : goodL 0 7 0 = some ([0], [lif 7 0]) := goodL_end (big_small (by omega) (by omega) (by omega)) (.inl rfl)
  have g1 : goodL 1 6 1 = some ([1, 0], [lif 6 1, lif 7 0]) := by
    rw [goodL_more (big_small (by omega) (by omega) (by omega)) (by omega) (by rw [e5]; omega), e5]
    show (goodL 0 7 0).map _ = _
    rw [g0]; rfl
  have g2 : goodL 2 5 2 = some ([2, 1, 0], [lif 5 2, lif 6 1, lif 7 0]) := by
    rw [goodL_more (big_small (by omega) (by omega) (by omega)) (by omega) (by rw [e4]; omega), e4]
    show (goodL 1 6 1).map _ = _
    rw [g1]; rfl
  have g3 : goodL 3 4 3 = some ([3, 2, 1, 0], [lif 4 3, lif 5 2, lif 6 1, lif 7 0]) := by
    rw [goodL_more (big_small (by omega) (by omega) (by omega)) (by omega) (by rw [e3]; omega), e3]
    show (goodL 2 5 2).map _ = _
    rw [g2]; rfl
  have g4 : goodL 4 3 3 = some ([3, 3, 2, 1, 0], [lif 3 3, lif 4 3, lif 5 2, lif 6 1, lif 7 0]) := by
    rw [goodL_more (big_small (by omega) (by omega) (by omega)) (by omega) (by rw [e2]; omega), e2]
    show (goodL 3 4 3).map _ = _
    rw [g3]; rfl
  have h : goodL 5 2 3 = some ([3, 3, 3, 2, 1, 0], [lif 2 3, lif 3 3, lif 4 3, lif 5 2, lif 6 1, lif 7 0]) := by
    rw [goodL_more (big_small (by omega) (by omega) (by omega)) (by omega) (by rw [e1]; omega), e1]
    show (goodL 4 3 3).map _ = _
    rw [g4]; rfl
  have hg : goodR 3 5 = .ok ([3, 3, 3, 2, 1, 0], [lif 2 3, lif 3 3, lif 4 3, lif 5 2, lif 6 1, lif 7 0]) := by
    unfold goodR
    rw [if_pos (by omega), show (5 : Int).toNat = 5 from rfl, show (3 : Int).toNat = 3 from rfl, h]
  rw [hg]
  exact ⟨rfl, rfl⟩
set_option maxHeartbeats 4000000 in
theorem awake_c {w : World} (hT : Tbl w) : Calls Tryz.prog 19 #[] w (Ret fun r w' => r = .bool true ∧ Below w.heap.size w w') := by
  refine calls_W (vs := []) Tryz.func19 rfl (by kernel_rfl) rfl ?_
  (repeat (first | with_reducible refine W.seq ?_ | with_reducible refine Ops.nil ?_ | with_reducible refine W.region ?_ | refine z_p (kk := ?_)))
  refine Ops.call rfl rfl rfl rfl rfl (Sum_c (s := sOne) (t := sOm) (by decide) (by decide) hT) (fun r w1 hR => ?_)
  obtain ⟨rfl, hb1⟩ := hR
  rw [aw_sum]
  (repeat (first | with_reducible refine W.seq ?_ | with_reducible refine Ops.nil ?_ | with_reducible refine W.region ?_ | refine z_p (kk := ?_)))
  refine Ops.call rfl rfl rfl rfl rfl (Descent_c (s := sOm) (n := 3) (by decide) (hT.below hb1)) (fun r w2 hR => ?_)
  obtain ⟨vd, rfl, hO2, hb12⟩ := hR
  have hb2 := Below.via hb1 hb12
  rw [aw_des.1]
  obtain ⟨Ad, cd, hvd⟩ := hO2.sh
  rw [List.length_map, aw_des.2] at hvd
  subst hvd
  (repeat (first | with_reducible refine W.seq ?_ | with_reducible refine Ops.nil ?_ | with_reducible refine W.region ?_ | refine z_p (kk := ?_)))
  refine Ops.call rfl rfl rfl rfl rfl (Goodstein_c (m := 3) (steps := 5) (hT.below hb2)) (fun r w3 hR => ?_)
  obtain ⟨v1, v2, rfl, hG1, hG2, hne, hb23⟩ := hR
  have hb3 := Below.via hb2 hb23
  rw [aw_good.1]
  rw [aw_good.2] at hG1
  have hsl := (hG1.base hb23.size).sl (z := (0 : Int))
  (repeat (first | with_reducible refine W.seq ?_ | with_reducible refine Ops.nil ?_ | with_reducible refine W.region ?_ | refine z_p (kk := ?_)))
  refine Ops.call rfl rfl rfl rfl rfl (Chop_c (s := [40, 40, 40, 41, 41, 41]) (head := 0) (n := 2) (by decide)) (fun r w4 hR => ?_)
  obtain ⟨rfl, hb34⟩ := hR
  have hb4 := Below.via hb3 hb34
  rw [aw_chop]
  (repeat (first | with_reducible refine W.seq ?_ | with_reducible refine Ops.nil ?_ | with_reducible refine W.region ?_ | refine z_p (kk := ?_) | refine z_y (kk := ?_) | refine z_l (kk := ?_) | refine z_ev (EV.sne rfl rfl rfl rfl) (kk := ?_)))
  refine Ops.bsG (cs := #[.int .i64 3, .int .i64 3, .int .i64 3, .int .i64 2, .int .i64 1, .int .i64 0]) (vs := [(0, .int .i64 3), (1, .int .i64 3), (2, .int .i64 3), (3, .int .i64 2), (4, .int .i64 1), (5, .int .i64 0)]) rfl rfl rfl rfl rfl rfl rfl rfl rfl (by simp [Instr.fill, Value.cells, show Array.range 6 = #[0, 1, 2, 3, 4, 5] from rfl]) (fun w5 r5 hM5 => ?_)
  have hb45 := Mk.bel hM5
  have B5 : Blk w5 r5 #[.int .i64 3, .int .i64 3, .int .i64 3, .int .i64 2, .int .i64 1, .int .i64 0] 3 := hM5.at_
  have hl5 : SlI w5 (.slice (some ⟨r5, 0, none⟩) 6 6) [3, 3, 3, 2, 1, 0] := ⟨by simp, _, _, rfl, fun _ => ⟨_, rfl, fun j hj => by
    have hj6 : j < 6 := hj
    rw [add_lit, Nat.zero_add]
    have : j = 0 ∨ j = 1 ∨ j = 2 ∨ j = 3 ∨ j = 4 ∨ j = 5 := by omega
    rcases this with rfl | rfl | rfl | rfl | rfl | rfl <;> exact B5.cell rfl⟩⟩
  (repeat (first | refine z_y (kk := ?_)))
  refine Ops.call rfl rfl rfl rfl rfl (ints_c (Sl.below hsl (Below.via hb34 hb45)) hl5) (fun r w6 hR => ?_)
  obtain ⟨rfl, hb56⟩ := hR
  rw [decide_eq_true (show intL [3, 3, 3, 2, 1, 0] = [3, 3, 3, 2, 1, 0] from rfl)]
  (repeat (first | with_reducible refine Ops.nil ?_ | refine z_p (kk := ?_) | refine z_y (kk := ?_) | refine z_ev (EV.sne rfl rfl rfl rfl) (kk := ?_)))
  refine W.condF rfl (by decide) ?_
  (repeat (first | with_reducible refine W.seq ?_ | with_reducible refine W.skip ?_))
  refine W.condF rfl (by first | rfl | assumption | (simp only [bnf] <;> omega) | (simp only [*, bnf]; done) | fail) ?_
  (repeat (first | with_reducible refine W.seq ?_ | with_reducible refine Ops.nil ?_ | with_reducible refine W.region ?_ | refine z_p (kk := ?_) | with_reducible refine W.skip ?_))
  exact W.fret rfl ⟨rfl, Below.via hb4 (Below.via hb45 hb56)⟩
end Go.Proofs.YtcmjlmnfdncajaaGreatDoor
/- Strings among the arguments of a law; the listed table of powers of ten. -/
namespace Go.Proofs.YtcmjlmnfdncajaaGreatDoor
open Go Go.RowKit Go.ChangeShapes Go.Proofs.YtcmjlmnfdncajaaGreatDoor.VW
theorem arr_open {H : Type} {enc : TypeId × Value → H} {P : Program} {W : World} {r : Reach} {b0 : Nat} {t e : TypeId} {n fuel : Nat} {v : Value} {x : DataW H × List MemPlace} (ht : P.underlying t = some (.array n e)) (hct : P.cellsOf t = n) (hce : P.cellsOf e = 1)
    (hval : Value.okWide P W r b0 t v) (h : DataW.trod enc P W 0 (fun _ => true) true fuel t v.cells.toList = some x) : ∃ cs : List Value, v = .agg cs.toArray ∧ cs.length = n ∧ ∀ i, i < n → ∃ m y, DataW.trod enc P W 0 (fun _ => true) true m e [cs.getD i undef] = some y := by
  simp only [Value.okWide, ht] at hval
  obtain ⟨cs, rfl, h2, _⟩ := hval
  obtain ⟨xs, m, _, _, _, hl, hi⟩ := DataW.trod_array ht h
  have hcl : cs.toList.length = n := by rw [Array.length_toList, h2, hct]
  refine ⟨cs.toList, by simp, hcl, fun i hin => ?_⟩
  have := hi i hin
  rw [List.getElem?_eq_getElem (by omega), hce, Nat.mul_one] at this
  have e1 : (cs.toList.drop i).take 1 = [cs.toList.getD i undef] := by
    rw [List.drop_eq_getElem_cons (by omega)]
    rw [Array.length_toList] at hcl
    simp [List.getD_eq_getElem?_getD, show i < cs.size by omega]
  have e2 : (Value.agg cs).cells.toList = cs.toList := rfl
  rw [e2, e1] at this
  exact ⟨m, _, this⟩
theorem len_ok {s : ByteArray} (h : s.size ≤ maxLen) : s.data.toList.length ≤ 9223372036854775807 := by
  have e : s.data.toList.length = s.size := by rw [ByteArray.size, Array.length_toList]
  rw [e]
  exact h
theorem sarr3 {H : Type} {enc : TypeId × Value → H} {P : Program} {W : World} {r : Reach} {b0 : Nat} {t s : TypeId} {fuel : Nat} {v : Value} {x : DataW H × List MemPlace} (ht : P.underlying t = some (.array 3 s)) (hs : P.underlying s = some .string) (hct : P.cellsOf t = 3) (hcs : P.cellsOf s = 1)
    (hval : Value.okWide P W r b0 t v) (h : DataW.trod enc P W 0 (fun _ => true) true fuel t v.cells.toList = some x) : ∃ (l0 l1 l2 : List UInt8), v = .agg #[S l0, S l1, S l2] ∧ l0.length ≤ 9223372036854775807 ∧ l1.length ≤ 9223372036854775807 ∧ l2.length ≤ 9223372036854775807 := by
  obtain ⟨cs, rfl, hl, hi⟩ := arr_open ht hct hcs hval h
  obtain ⟨c0, c1, c2, rfl⟩ : ∃ c0 c1 c2, cs = [c0, c1, c2] := by
    match cs, hl with
    | [c0, c1, c2], _ => exact ⟨c0, c1, c2, rfl⟩
  obtain ⟨_, _, h0⟩ := hi 0 (by omega)
  obtain ⟨_, _, h1⟩ := hi 1 (by omega)
  obtain ⟨_, _, h2⟩ := hi 2 (by omega)
  obtain ⟨s0, e0, _, k0⟩ := DataW.trod_string hs h0
  obtain ⟨s1, e1, _, k1⟩ := DataW.trod_string hs h1
  obtain ⟨s2, e2, _, k2⟩ := DataW.trod_string hs h2
  simp at e0 e1 e2
  exact ⟨s0.data.toList, s1.data.toList, s2.data.toList, by rw [e0, e1, e2], len_ok k0, len_ok k1, len_ok k2⟩
theorem gP : Tryz.prog.globalNamed "internal/strconv.uint64pow10" = some 0 := by kernel_rfl
theorem tP : (Tryz.prog.globals[0]?).map (·.type) = some 189 := by kernel_rfl
end Go.Proofs.YtcmjlmnfdncajaaGreatDoor
