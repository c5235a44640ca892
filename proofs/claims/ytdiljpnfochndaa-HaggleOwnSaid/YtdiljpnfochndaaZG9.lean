/- A part of the walk: what this seat's statements share. -/
import Derived.Test.YtdiljpnfochndaaZG7
import Derived.Test.YtdiljpnfochndaaZG8
import Derived.Test.YtdiljpnfochndaaZG4
set_option linter.unusedVariables false
set_option linter.unusedSimpArgs false
set_option linter.unusedSectionVars false
namespace Go.Proofs.Ytdiljpnfochndaa
open Go Go.RowKit Go.Proofs.Ytdiljpnfochndaa.VW
open Go.Proofs.Ytdiljpnfochndaa.HP (Nd kid wor leafB rd evB sg)
attribute [local irreducible] W Ops OrdA VW.Ord OrdX
theorem clone_c {w : World} {v : Value} {xs : List Int} (h : SlI w v xs) (hl : xs.length ≤ 1000) : Calls Try.prog 87 #[v] w (Ret fun r w' => OI 3 (Value.int .i64) w w' r xs) := by
  obtain ⟨A, c, rfl⟩ := Sl.sl h
  refine calls_W (vs := [_]) Try.func87 rfl (by kernel_rfl) rfl ?_
  (repeat (first | with_reducible refine W.seq ?_ | with_reducible refine Ops.nil ?_ | with_reducible refine W.region ?_ | refine z_p (kk := ?_)))
  refine Ops.evG rfl rfl rfl (EV.nilE rfl rfl rfl rfl) ?_
  (repeat (first | with_reducible refine Ops.nil ?_))
  cases A with
  | none =>
    have hx : xs = [] := by
      obtain ⟨_, A, c', e, hc⟩ := h
      by_cases hp : 0 < xs.length
      · obtain ⟨a, ea, _⟩ := hc hp
        simp only [Value.slice.injEq] at e
        rw [ea] at e
        simp at e
      · exact List.eq_nil_of_length_eq_zero (by omega)
    subst hx
    refine W.condT rfl (by first | rfl | assumption | (simp only [bnf] <;> omega) | (simp only [*, bnf]; done) | fail) ?_
    (repeat (first | with_reducible refine W.seq ?_ | with_reducible refine Ops.nil ?_ | with_reducible refine W.region ?_ | refine z_p (kk := ?_)))
    exact W.fret rfl (OI.nil (Below.refl _ _))
  | some a =>
    refine W.condF rfl (by first | rfl | assumption | (simp only [bnf] <;> omega) | (simp only [*, bnf]; done) | fail) ?_
    (repeat (first | with_reducible refine W.seq ?_ | with_reducible refine W.region ?_ | with_reducible refine W.skip ?_))
    refine Ops.bs0 rfl rfl rfl rfl rfl (fun w1 r hM => ?_)
    have hO1 : OI 3 (Value.int .i64) w w1 (.slice (some ⟨r, 0, none⟩) 0 0) [] := ⟨Below.put (Below.refl _ _) hM.kp (fun _ e => e.elim), own_zero hM, fun k hk => by have := hM.r_eq; simp [Value.ownBlock] at hk; omega⟩
    (repeat (first | refine z_p (kk := ?_)))
    refine Ops.appO (enc := Value.int .i64) 0 rfl rfl rfl rfl rfl rfl rfl rfl rfl rfl hO1 h hO1.bel (fun _ => rfl) (by simp; omega) (fun v' w2 hO2 k2 hn2 => ?_)
    rw [List.nil_append] at hO2
    (repeat (first | with_reducible refine Ops.nil ?_ | refine z_p (kk := ?_)))
    exact W.fret rfl hO2
theorem better_c {w : World} {g : Nat} {l : List Nd} {dep : List Int} {vv : Value} (hG : Game w g l dep) (i : Int) (h0 : 0 ≤ i) (h1 : i < dep.length) (hv : vv.oneCell' = true) :
    Calls Try.prog 85 #[.pointer (some ⟨g, 0, none⟩), .int .i64 i, vv] w (Ret fun r w' => ∃ b1 b2, r = .func (.func 98) #[] #[.pointer (some ⟨b1, 0, none⟩), .pointer (some ⟨b2, 0, none⟩)] ∧ Blk w' b1 #[.int .i64 (sg dep i)] 3 ∧ Blk w' b2 #[vv] 24 ∧ Below w.heap.size w w' ∧ w.heap.size ≤ b1 ∧ w.heap.size ≤ b2) := by
  refine calls_W (vs := [_, _, _]) Try.func85 rfl (by kernel_rfl) rfl ?_
  (repeat (first | with_reducible refine W.seq ?_ | with_reducible refine W.region ?_))
  refine Ops.box rfl rfl rfl rfl (fun w1 b2 hM1 => ?_)
  have hcv : vv.cells = #[vv] := by cases vv <;> simp_all [Value.oneCell', Value.cells]
  rw [hcv] at hM1
  have hB2 : Blk w1 b2 #[vv] 24 := hM1.at_
  have hb1 : Below w.heap.size w w1 := Below.put (Below.refl _ _) hM1.kp (fun _ e => e.elim)
  (repeat (first | with_reducible refine W.seq ?_ | with_reducible refine Ops.nil ?_ | with_reducible refine W.region ?_ | refine z_p (kk := ?_)))
  refine Ops.alloc rfl rfl rfl rfl (fun w2 b1 hM2 => ?_)
  have hB2' : Blk w2 b2 #[vv] 24 := hB2.kp hM2.kp (fun e => e)
  have hb2 : Below w.heap.size w w2 := Below.put hb1 hM2.kp (fun _ e => e.elim)
  have e1 := hM1.r_eq
  have e2 := hM2.r_eq
  have e3 := hM1.size
  refine Ops.st rfl rfl rfl rfl rfl rfl rfl hM2.at_ (by simp [Value.cells]) (fun w3 hu3 => ?_)
  have hB1 : Blk w3 b1 #[.int .i64 1] 3 := hu3.blk
  have hB2'' : Blk w3 b2 #[vv] 24 := hB2'.kp hu3.kp (by omega)
  have hb3 : Below w.heap.size w w3 := Below.put hb2 hu3.kp (fun i hi => by omega)
  have hG3 := hG.below hb3
  (repeat (first | with_reducible refine W.seq ?_ | with_reducible refine Ops.nil ?_ | with_reducible refine W.region ?_ | refine z_p (kk := ?_)))
  refine Ops.callS rfl rfl rfl rfl rfl (atMax_c hG3 i h0 h1) ?_
  (repeat (first | with_reducible refine Ops.nil ?_))
  cases he : evB dep i with
  | true =>
    refine W.condT rfl (by first | rfl | assumption | (simp only [bnf] <;> omega) | (simp only [*, bnf]; done) | fail) ?_
    (repeat (first | with_reducible refine W.region ?_))
    refine Ops.st rfl rfl rfl rfl rfl rfl rfl hB1 (by simp) (fun w4 hu4 => ?_)
    have hB1' : Blk w4 b1 #[.int .i64 (-1)] 3 := hu4.blk
    have hb4 : Below w.heap.size w w4 := Below.put hb3 hu4.kp (fun i hi => by omega)
    (repeat (first | with_reducible refine W.seq ?_ | with_reducible refine Ops.nil ?_ | with_reducible refine W.region ?_ | refine z_p (kk := ?_)))
    exact W.fret rfl ⟨b1, b2, rfl, by rw [sg, he]; exact hB1', hB2''.kp hu4.kp (by omega), hb4, by omega, by omega⟩
  | false =>
    refine W.condF rfl (by first | rfl | assumption | (simp only [bnf] <;> omega) | (simp only [*, bnf]; done) | fail) ?_
    (repeat (first | with_reducible refine W.seq ?_ | with_reducible refine Ops.nil ?_ | with_reducible refine W.region ?_ | refine z_p (kk := ?_) | with_reducible refine W.skip ?_))
    exact W.fret rfl ⟨b1, b2, rfl, by rw [sg, he]; exact hB1, hB2'', hb3, by omega, by omega⟩
theorem cmp_c {w : World} {b1 b2 : Nat} {sn : Int} {vv : Value} {vs : List Int} (hB1 : Blk w b1 #[.int .i64 sn] 3) (hB2 : Blk w b2 #[vv] 24) (hs : SlI w vv vs) (hsg : sn = 1 ∨ sn = -1) (hvs : ∀ j : Nat, -1099511627776 ≤ vs.getD j 0 ∧ vs.getD j 0 ≤ 1099511627776) {x y : Int} (hx : 0 ≤ x ∧ x < vs.length) (hy : 0 ≤ y ∧ y < vs.length) :
    Calls Try.prog 98 #[.int .i64 x, .int .i64 y, .pointer (some ⟨b1, 0, none⟩), .pointer (some ⟨b2, 0, none⟩)] w (Ret fun r w' => r =   .int .i64 (sn * (rd vs x - rd vs y)) ∧ Below w.heap.size w w') := by
  obtain ⟨A, c, rfl⟩ := Sl.sl hs
  refine calls_W (vs := [_, _, _, _]) Try.func98 rfl (by kernel_rfl) rfl ?_
  (repeat (first | with_reducible refine W.seq ?_ | with_reducible refine Ops.nil ?_ | with_reducible refine W.region ?_ | refine z_p (kk := ?_)))
  refine W.ordA 99 [(0, 2), (1, 2), (2, 1), (3, 1), (4, 2), (5, 2), (6, 1), (7, 1), (8, 2), (9, 1), (10, 1), (11, 1)] rfl (by kernel_rfl) rfl (by kernel_rfl) (fun _ _ _ h => h) ?_
  (repeat (first | refine x_p (kk := ?_) | refine x_K (kk := fun _ => ?_) | refine x_D (kk := ?_)))
  have h1 := hvs x.toNat
  have h2 := hvs y.toNat
  simp only [rd]
  generalize vs.getD x.toNat 0 = u at *
  generalize vs.getD y.toNat 0 = v at *
  rcases hsg with rfl | rfl
  · (repeat (first | refine x_p (kk := ?_) | refine x_a (kk := ?_)))
    refine OrdA.nil (fun w2 hb2 => ?_)
    skip
    exact W.fret rfl ⟨rfl, hb2⟩
  · (repeat (first | refine x_p (kk := ?_) | refine x_a (kk := ?_)))
    refine OrdA.nil (fun w2 hb2 => ?_)
    skip
    exact W.fret rfl ⟨rfl, hb2⟩
end Go.Proofs.Ytdiljpnfochndaa
namespace Go.Proofs.Ytdiljpnfochndaa
open Go Go.RowKit Go.Proofs.Ytdiljpnfochndaa.VW
open Go.Proofs.Ytdiljpnfochndaa.HP (Nd kid wor leafB rd evB sg TF kT subT subO SS KK SS_perm SS_len SS_mem SS_uniq kT_snoc SortK SegP)
attribute [local irreducible] W Ops OrdA VW.Ord OrdX
theorem TQ.sh {B : Nat} {w : World} {ov : Value} {tr : List Nd} {cvs : List Value} (h : TQ B w ov tr cvs) : ∃ A c, ov = .slice A tr.length c := h.treeM.sl
theorem Below.kpB {B : Nat} {w w' : World} (h : Below B w w') : Kp (fun i => B ≤ i) w w' := ⟨h.os, h.tape, h.output, h.size, fun i hi hn => h.block i (by omega)⟩
theorem app_set {tr r : List Nd} {a b : Nd} : (tr ++ a :: r).set tr.length b = tr ++ b :: r := by simp
theorem app_kid {tr r : List Nd} {a : Nd} : kid (tr ++ a :: r) tr.length = a.1 := by simp [Go.Proofs.Ytdiljpnfochndaa.HP.kid, List.getD_eq_getElem?_getD]
theorem app_wor {tr r : List Nd} {a : Nd} : wor (tr ++ a :: r) tr.length = a.2 := by simp [Go.Proofs.Ytdiljpnfochndaa.HP.wor, List.getD_eq_getElem?_getD]
theorem flat_split {f : Int → List Int} : ∀ (xs : List Int) (j : Nat), j < xs.length → ((xs.take j).flatMap f).length + (f (xs.getD j 0)).length ≤ (xs.flatMap f).length
  | [], j, h => by simp at h
  | a :: r, 0, _ => by simp
  | a :: r, j + 1, h => by
    have := flat_split (f := f) r j (by simpa using h)
    simp only [List.take_succ_cons, List.flatMap_cons, List.length_append, List.getD_cons_succ]
    omega
theorem own_sl' {w : World} {v : Value} {xs : List Value} {n e sz : Nat} (h : w.ownsRow 0 e sz v n xs) : ∃ A c, v = .slice A n c := by
  rcases h.2 with ⟨rfl, h0⟩ | ⟨g, cap, cur, rfl, _⟩
  · exact ⟨none, 0, by rw [h0]⟩
  · exact ⟨_, _, rfl⟩
/-- What the visits find. -/
structure VisB (w0 wB : World) (b1 b6 b7 b8 b9 g : Nat) (tv vv : Value) (l : List Nd) (dep vs : List Int) : Prop where
  B1 : Blk w0 b1 #[tv] 22
  B6 : Blk w0 b6 #[.func (.func 85) #[.pointer (some ⟨g, 0, none⟩)] #[]] 95
  B7 : Blk w0 b7 #[vv] 24
  G : Game w0 g l dep
  T : TreeM w0 tv l
  V : SlI w0 vv vs
  h8 : w0.heap.size ≤ b8 ∧ b8 < wB.heap.size
  h9 : w0.heap.size ≤ b9 ∧ b9 < wB.heap.size
  h89 : b8 ≠ b9
/-- How it stands at a visit. -/
structure VisI (w0 wB w : World) (b1 b6 b7 b8 b9 : Nat) (ov : Value) (tr : List Nd) (cvs : List Value) : Prop where
  bel : Below w0.heap.size w0 w
  B9 : Blk w b9 #[.func (.func 86) #[] #[.pointer (some ⟨b8, 0, none⟩), .pointer (some ⟨b1, 0, none⟩), .pointer (some ⟨b6, 0, none⟩), .pointer (some ⟨b7, 0, none⟩), .pointer (some ⟨b9, 0, none⟩)]] 74
  B8 : Blk w b8 #[ov] 22
  Q : TQ wB.heap.size w ov tr cvs
  hB : wB.heap.size ≤ w.heap.size
def VisC (w0 wB : World) (b1 b6 b7 b8 b9 : Nat) (l : List Nd) (dep vs : List Int) (N : Nat) : Prop := ∀ (w : World) (i : Nat) (ov : Value) (tr : List Nd) (cvs : List Value), i < l.length → l.length - i ≤ N → VisI w0 wB w b1 b6 b7 b8 b9 ov tr cvs → tr.length + (subO (SS l dep vs) N i).length ≤ 60 →
  Calls Try.prog 86 #[.int .i64 i, .pointer (some ⟨b8, 0, none⟩), .pointer (some ⟨b1, 0, none⟩), .pointer (some ⟨b6, 0, none⟩), .pointer (some ⟨b7, 0, none⟩), .pointer (some ⟨b9, 0, none⟩)] w (Ret fun r w' => ∃ ov' cvs', r = .int .i64 tr.length ∧ VisI w0 wB w' b1 b6 b7 b8 b9 ov' (tr ++ subT (SS l dep vs) l N i tr.length) cvs' ∧
    Kp (fun k => k = b8 ∨ outB ov cvs k) w w' ∧ ∀ k, outB ov' cvs' k → outB ov cvs k ∨ w.heap.size ≤ k)
set_option maxHeartbeats 8000000 in
theorem visit_c {w0 wB : World} {b1 b6 b7 b8 b9 g : Nat} {tv vv : Value} {l : List Nd} {dep vs : List Int} (hV : VisB w0 wB b1 b6 b7 b8 b9 g tv vv l dep vs) (hTF : TF l dep) (hvl : vs.length = l.length) (hvs : ∀ j : Nat, -1099511627776 ≤ vs.getD j 0 ∧ vs.getD j 0 ≤ 1099511627776) : ∀ N, VisC w0 wB b1 b6 b7 b8 b9 l dep vs N := by
  intro N
  induction N with
  | zero =>
    intro w i ov tr cvs hi hN
    omega
  | succ N ih =>
    intro w i ov tr cvs hi hN hI hlen
    obtain ⟨hB1, hB6, hB7, hG, hT, hV', h8, h9, h89⟩ := hV
    have hQ := hI.Q
    have hB8 := hI.B8
    have hbel := hI.bel
    have hB := hI.hB
    have hn60 := hTF.n60
    have hdl := hTF.len
    have hwo := hTF.wor i hi
    have hkl := hTF.klen i hi
    have hkf := Go.Proofs.Ytdiljpnfochndaa.HP.kid_few hTF hi
    obtain ⟨A, c, rfl⟩ := hQ.sh
    obtain ⟨At, ct, rfl⟩ := hT.sl
    have hB1w : Blk w b1 #[.slice At l.length ct] 22 := hB1.kp (Kp.of_below (S := fun _ => False) hbel) (fun e => e)
    simp only [subO, List.length_cons] at hlen
    refine calls_W (vs := [_, _, _, _, _, _]) Try.func86 rfl (by kernel_rfl) rfl ?_
    (repeat (first | with_reducible refine W.seq ?_ | with_reducible refine Ops.nil ?_ | with_reducible refine W.region ?_ | refine z_p (kk := ?_) | refine z_l (kk := ?_) | refine z_d (kk := ?_)))
    have h0B : w0.heap.size ≤ wB.heap.size := by omega
    have hF0 : ∀ w1, Below wB.heap.size w w1 → Below w0.heap.size w0 w1 := fun w1 h => hbel.trans (h.mono h0B)
    have hF1 : ∀ w1, Below wB.heap.size w w1 → Blk w1 b1 #[.slice At l.length ct] 22 := fun w1 h => hB1.kp (Kp.of_below (S := fun _ => False) (hF0 w1 h)) (fun e => e)
    have hF8 : ∀ w1, Below wB.heap.size w w1 → Blk w1 b8 #[.slice A tr.length c] 22 := fun w1 h => hB8.kp (Below.kpB h) (by omega)
    refine W.ord 9 (fun w' => Below wB.heap.size w w') [(0, 2), (1, 2), (2, 1), (3, 1), (4, 1), (5, 2), (6, 1), (7, 0), (8, 0), (9, 0)] rfl (by kernel_rfl) rfl (by kernel_rfl) (fun w1 k1 _ => ⟨k1.below hB (fun _ _ e => e), ?_⟩)
    have hb1 : Below wB.heap.size w w1 := k1.below hB (fun _ _ e => e)
    have hQ1 := hQ.kp k1 (fun _ _ e => e)
    refine VW.Ord.read' rfl rfl rfl rfl (fun _ _ _ h => h) (fun w1 h => EV.ld rfl rfl rfl ((hF8 w1 h).cell (v := .slice A tr.length c) rfl)) ?_
    refine VW.Ord.read' rfl rfl rfl rfl (fun _ _ _ h => h) (fun w1 h => EV.ld rfl rfl rfl ((hF1 w1 h).cell (v := .slice At l.length ct) rfl)) ?_
    (repeat (first | refine y_p (kk := ?_)))
    refine VW.Ord.rdW rfl rfl rfl rfl rfl rfl rfl rfl (fun _ => rfl) rfl rfl rfl rfl (fun _ _ => rfl) rfl rfl rfl rfl rfl rfl rfl hT hF0 (by omega) (by omega) (fun _ _ _ h => h) (fun _ _ => ?_)
    refine VW.Ord.pure rfl rfl rfl rfl (fun _ _ _ h => h) (fun w => EV.bldS rfl rfl rfl rfl rfl) ?_
    refine VW.Ord.push2 (w0 := wB) rfl rfl rfl rfl rfl rfl rfl rfl rfl rfl rfl rfl rfl (fun _ => rfl) rfl rfl hQ1.row (by omega) (fun w w' S h k hs => Kp.then h (Nat.le_trans hB h.size) k hs) hb1 (fun i hi => hQ.ge i hi) (fun lv' p w2 hF2 hrow k2 hn2 => ?_)
    have hQ2 := hQ1.push (Nat.le_trans hB k1.size) hrow k2 hn2
    refine VW.Ord.eff rfl ?_
    refine Ops.st rfl rfl rfl rfl rfl rfl ?_ (hF8 w2 hF2) (by simp) (fun w3 hu3 => Ops.nil (W.endl ⟨fun h => (by simp at h), ?_⟩))
    · obtain ⟨_, _, e⟩ := hQ2.sh; rw [e]; rfl
    refine VW.Ord.nil ?_
    have hB8' : Blk w3 b8 #[lv'] 22 := hu3.blk
    have hQ3 := hQ2.kp hu3.kp (fun k hk e => by have := (hQ2.lt hk).1; omega)
    have hb03 : Below w0.heap.size w0 w3 := Kp.then (hF0 w2 hF2) (hF0 w2 hF2).size hu3.kp (fun k (e : k = b8) => by omega)
    have hB1_3 : Blk w3 b1 #[.slice At l.length ct] 22 := hB1.kp (Kp.of_below (S := fun _ => False) hb03) (fun e => e)
    have hkp3 : Kp (fun k => k = b8 ∨ outB (.slice A tr.length c) cvs k) w w3 := ((k1.trans k2).trans hu3.kp).mono (fun k _ e => by
      rcases e with (e | e) | e
      · exact e.elim
      · exact .inr (.inl e)
      · exact .inl e)
    have hn3 := outB_push (cvs := cvs) hn2
    have hs1 := k1.size
    have hs2 := hF2.size
    have hs3 := hu3.size
    have hs12 := k2.size
    have hB9_3 := (hI.B9.kp (Below.kpB hF2) (by omega)).kp hu3.kp (fun e => h89 e.symm)
    (repeat (first | with_reducible refine W.seq ?_ | with_reducible refine W.region ?_ | refine z_p (kk := ?_) | refine z_d (kk := ?_) | refine z_k (kk := fun _ _ _ _ _ => ?_)))
    rename_i Ak ck _ _ hks
    refine Ops.call rfl rfl rfl rfl rfl (clone_c (Sl.below hks hb03) (by omega)) (fun v4 w4 hO4 => ?_)
    have hb34 := hO4.bel
    have hb04 := Below.via hb03 hb34
    have hB6_4 := hB6.kp (Kp.of_below (S := fun _ => False) hb04) (fun e => e)
    have hB7_4 := hB7.kp (Kp.of_below (S := fun _ => False) hb04) (fun e => e)
    (repeat (first | with_reducible refine W.seq ?_ | with_reducible refine Ops.nil ?_ | with_reducible refine W.region ?_ | refine z_p (kk := ?_) | refine z_d (kk := ?_)))
    refine Ops.call rfl rfl rfl rfl rfl (better_c (hG.below hb04) i (by omega) (by omega) ?_) (fun v5 w5 hR => ?_)
    · obtain ⟨_, _, e⟩ := Sl.sl hV'; rw [e]; rfl
    obtain ⟨c1, c2, rfl, hC1, hC2, hb45, hC1new, hC2new⟩ := hR
    have hO5 := hO4.below hb45
    have hb05 := Below.via hb04 hb45
    have hcm : ∀ p q : Nat, p < q → q < (kid l i).length → Cmp (fun w' => Blk w' c1 #[.int .i64 (sg dep i)] 3 ∧ Blk w' c2 #[vv] 24 ∧ Below w0.heap.size w0 w') w3 98 [] [.pointer (some ⟨c1, 0, none⟩), .pointer (some ⟨c2, 0, none⟩)] (fun y x => sg dep i * (rd vs y - rd vs x)) (KK l dep vs i) ((kid l i).getD p 0) ((kid l i).getD q 0) := fun p q h1 h2 => by
      have hk := Go.Proofs.Ytdiljpnfochndaa.HP.KK_lt hTF vs hi h1 h2
      have kp := hTF.kin i p hi (by omega)
      have kq := hTF.kin i q hi h2
      simp only [Go.Proofs.Ytdiljpnfochndaa.HP.k_] at kp kq
      exact ⟨fun w' _ hg => cmp_c hg.1 hg.2.1 (Sl.below hV' hg.2.2) (Go.Proofs.Ytdiljpnfochndaa.HP.sg_cases dep i) hvs (by omega) (by omega), hk.1, hk.2⟩
    have hGs : Gst (fun w' => Blk w' c1 #[.int .i64 (sg dep i)] 3 ∧ Blk w' c2 #[vv] 24 ∧ Below w0.heap.size w0 w') v4 := fun w w' hg k => by
      have g1 := hC1new
      have g2 := hC2new
      refine ⟨hg.1.kp k (fun e => ?_), hg.2.1.kp k (fun e => ?_), Kp.then hg.2.2 hg.2.2.size k (fun j e => ?_)⟩
      · have := (hO4.own.lt _ e).2; omega
      · have := (hO4.own.lt _ e).2; omega
      · have := hO4.ge _ e; have := hb03.size; omega
    refine Ops.call rfl rfl rfl rfl rfl (sortStable_c ⟨hO5, hC1, hC2, hb05⟩ hGs (by omega) rfl rfl hcm) (fun v6 w6 hR => ?_)
    obtain ⟨os, hO6, hS6, hK6⟩ := hR
    have hos : os = SS l dep vs i := by
      refine SS_uniq hTF vs hi hS6.perm (Go.Proofs.Ytdiljpnfochndaa.HP.sortK_pw ?_)
      rw [hS6.len]; exact hK6
    subst hos
    have hsl := SS_len l dep vs i
    have hb36 := hO6.bel
    have hI6 : VisI w0 wB w6 b1 b6 b7 b8 b9 lv' (tr ++ [([], wor l i)]) (cvs ++ [.slice none 0 0]) :=
      ⟨hO6.g.2.2, hB9_3.kp (Kp.of_below (S := fun _ => False) hb36) (fun e => e), hB8'.kp (Kp.of_below (S := fun _ => False) hb36) (fun e => e), hQ3.below hb36, by have := hb36.size; omega⟩
    have hv4 : SlI w6 v4 (SS l dep vs i) := hO6.sl
    have hv4b : ∀ k, v4.ownBlock = some k → w3.heap.size ≤ k ∧ k < w6.heap.size := fun k hk => ⟨hO6.oi.ge k hk, (hO6.oi.own.lt k hk).2⟩
    have hkp6 : Kp (fun k => k = b8 ∨ outB (.slice A tr.length c) cvs k) w w6 := (hkp3.trans (Kp.of_below (S := fun _ => False) hb36)).mono (fun k _ e => by rcases e with e | e; exact e; exact e.elim)
    have hn6 : ∀ k, outB lv' (cvs ++ [.slice none 0 0]) k → outB (.slice A tr.length c) cvs k ∨ w.heap.size ≤ k := fun k hk => by
      rcases hn3 k hk with h | h
      · exact .inl h
      · exact .inr (by omega)
    have hn6' : ∀ k, outB lv' (cvs ++ [.slice none 0 0]) k → k < w3.heap.size ∨ w6.heap.size ≤ k := fun k hk => .inl (hQ3.lt hk).2
    obtain ⟨A4, ce4, rfl⟩ := hO6.sh
    have hsz36 := hb36.size
    clear hO6 hS6 hK6 hGs hcm hO5 hO4 hQ1 hQ2 hQ3 hB8' hB9_3 hF1 hF8 hn2 hn3 hkp3 hB1_3 hks hC1 hC2
    (repeat (first | with_reducible refine W.seq ?_ | with_reducible refine Ops.nil ?_ | with_reducible refine W.region ?_ | refine z_p (kk := ?_) | with_reducible refine W.block ?_ | refine z_l (kk := ?_)))
    refine W.loop (fun m ρ w7 => ∃ (j : Nat) (ov : Value) (cvs' : List Value), m = (kid l i).length - j ∧ j ≤ (kid l i).length ∧ ρ = [(1, .pointer (some ⟨b8, 0, none⟩)), (5, .pointer (some ⟨b9, 0, none⟩)), (8, .int .i64 tr.length), (36, .slice A4 (SS l dep vs i).length ce4), (37, .int .i64 (SS l dep vs i).length), (38, .int .i64 j)] ∧
      VisI w0 wB w7 b1 b6 b7 b8 b9 ov (tr ++ ((kT (subT (SS l dep vs) l N) tr.length ((SS l dep vs i).take j)).1, wor l i) :: (kT (subT (SS l dep vs) l N) tr.length ((SS l dep vs i).take j)).2) cvs' ∧ SlI w7 (.slice A4 (SS l dep vs i).length ce4) (SS l dep vs i) ∧
      Kp (fun k => k = b8 ∨ outB (.slice A tr.length c) cvs k) w w7 ∧ (∀ k, outB ov cvs' k → outB (.slice A tr.length c) cvs k ∨ w.heap.size ≤ k) ∧ (∀ k, outB ov cvs' k → k < w3.heap.size ∨ w6.heap.size ≤ k) ∧ w6.heap.size ≤ w7.heap.size)
      ⟨_, _, ⟨0, _, _, rfl, Nat.zero_le _, rfl, hI6, hv4, hkp6, hn6, hn6', Nat.le_refl _⟩, (by repeat (first | exact trivial | refine And.intro rfl ?_))⟩ ?_
    clear hI6 hkp6 hn6 hn6'
    rintro m ρ w7 ⟨j, ov, cvs', rfl, hj, rfl, hI7, hS7, hk7, hn7, hn7', hs7⟩
    have hB8 := hI7.B8
    have hB9 := hI7.B9
    have hQ7 := hI7.Q
    (repeat (first | with_reducible refine W.seq ?_ | with_reducible refine Ops.nil ?_ | with_reducible refine W.region ?_ | refine z_p (kk := ?_)))
    (first | refine W.condD rfl (fun hc => ?_) (fun hc => ?_) | refine W.condE rfl (fun hc => ?_) (fun hc => ?_) | refine W.condN rfl (fun hc => ?_) (fun hc => ?_) | refine W.cond rfl (fun hc => ?_) (fun hc => ?_))
    · have hjl : j < (SS l dep vs i).length := by omega
      (repeat (first | with_reducible refine W.seq ?_ | with_reducible refine Ops.nil ?_ | with_reducible refine W.region ?_ | refine z_p (kk := ?_) | with_reducible refine W.skip ?_ | with_reducible refine W.block ?_ | refine z_d (kk := ?_) | refine z_I (kk := fun _ => ?_)))
      have hmem := SS_mem hTF vs hi hjl
      obtain ⟨m, hm⟩ := Int.eq_ofNat_of_zero_le (show 0 ≤ (SS l dep vs i).getD j 0 by omega)
      have hfs := flat_split (f := subO (SS l dep vs) N) (SS l dep vs i) j hjl
      have hl2 := Go.Proofs.Ytdiljpnfochndaa.HP.kT_len2 (SS l dep vs) l N tr.length ((SS l dep vs i).take j)
      have hsn := kT_snoc (subT (SS l dep vs) l N) tr.length ((SS l dep vs i).take j) ((SS l dep vs i).getD j 0)
      rw [← Go.Proofs.Ytdiljpnfochndaa.HP.take_snoc _ _ hjl] at hsn
      rw [hm] at hfs hmem hsn
      simp only [hm]
      generalize hP : kT (subT (SS l dep vs) l N) tr.length ((SS l dep vs i).take j) = P at *
      have hcl := ih w7 m ov _ cvs' (by omega) (by omega) hI7 (by simp only [List.length_append, List.length_cons]; omega)
      simp only [List.length_append, List.length_cons] at hcl
      rw [show tr.length + (P.2.length + 1) = tr.length + 1 + P.2.length by omega] at hcl
      refine Ops.call rfl rfl rfl rfl rfl hcl (fun v w8 hR => ?_)
      obtain ⟨ov8, cvs8, rfl, hI8, hk8, hn8⟩ := hR
      rw [List.append_assoc, List.cons_append] at hI8
      have hQ8 := hI8.Q
      have hB8_8 := hI8.B8
      have hS8 : SlI w8 (.slice A4 (SS l dep vs i).length ce4) (SS l dep vs i) := hS7.kp hk8 (fun k hk e => by
        have := hv4b k hk
        rcases e with e | e
        · have := hI7.hB; have := hb03.size; omega
        · rcases hn7' k e with h | h <;> omega)
      have hPl : P.1.length = j := by
        rw [← hP, Go.Proofs.Ytdiljpnfochndaa.HP.kT_len1, List.length_take]; omega
      have hlt8 : tr.length < (tr ++ (P.1, wor l i) :: (P.2 ++ subT (SS l dep vs) l N m (tr.length + 1 + P.2.length))).length := by simp only [List.length_append, List.length_cons]; omega
      have hk8' : kid (tr ++ (P.1, wor l i) :: (P.2 ++ subT (SS l dep vs) l N m (tr.length + 1 + P.2.length))) tr.length = P.1 := app_kid
      have hw8' : wor (tr ++ (P.1, wor l i) :: (P.2 ++ subT (SS l dep vs) l N m (tr.length + 1 + P.2.length))) tr.length = wor l i := app_wor
      have hset := app_set (tr := tr) (r := P.2 ++ subT (SS l dep vs) l N m (tr.length + 1 + P.2.length)) (a := (P.1, wor l i)) (b := (P.1 ++ [((tr.length + 1 + P.2.length : Nat) : Int)], wor l i))
      generalize tr ++ (P.1, wor l i) :: (P.2 ++ subT (SS l dep vs) l N m (tr.length + 1 + P.2.length)) = L8 at *
      have hown := hQ8.own tr.length hlt8
      have hsep := hQ8.sep tr.length hlt8
      rw [show (L8.getD tr.length ([], 0)).1 = P.1 by rw [← hk8']; simp [Go.Proofs.Ytdiljpnfochndaa.HP.kid]] at hown
      obtain ⟨g8, c8, rfl, hcell⟩ := hQ8.cell hlt8
      have hgrow := fun {w1 w' lv' x} => hQ8.grow (w1 := w1) (w' := w') (lv' := lv') (x := x) hI8.hB hlt8
      rw [hk8', hw8'] at hgrow
      have hout := fun {lv'} => outB_set (ov := .slice (some ⟨g8, 0, none⟩) L8.length c8) (lv' := lv') (cvs := cvs8) (w := w8) (p := tr.length) (by rw [hQ8.len]; exact hlt8)
      generalize hkv : cvs8.getD tr.length undef = kv at *
      (repeat (first | with_reducible refine Ops.nil ?_ | refine z_p (kk := ?_)))
      have hF8 : ∀ w1, Kp (fun k => kv.ownBlock = some k) w8 w1 → Blk w1 b8 #[.slice (some ⟨g8, 0, none⟩) L8.length c8] 22 := fun w1 k => hB8_8.kp k (fun e => by have := (hsep _ e).1; omega)
      have hFc : ∀ w1, Kp (fun k => kv.ownBlock = some k) w8 w1 → w1.cell? ⟨g8, tr.length * 2, none⟩ = some kv := fun w1 k => cell_kp k hcell (fun e => (hsep _ e).2 rfl)
      refine W.ord 12 (fun w' => Kp (fun k => kv.ownBlock = some k) w8 w') [(0, 2), (1, 1), (2, 2), (3, 1), (4, 1), (5, 1), (6, 2), (7, 1), (8, 0), (9, 0), (10, 1), (11, 1), (12, 0)] rfl (by kernel_rfl) rfl (by kernel_rfl) (fun w9 k9 _ => ⟨k9.mono (fun _ _ e => e.elim), ?_⟩)
      refine VW.Ord.read' rfl rfl rfl rfl (fun _ _ _ h => h) (fun w1 h => EV.ld rfl rfl rfl ((hF8 w1 h).cell (v := .slice (some ⟨g8, 0, none⟩) L8.length c8) rfl)) ?_
      (repeat (first | refine y_p (kk := ?_)))
      refine VW.Ord.read' rfl rfl rfl rfl (fun _ _ _ h => h) (fun w1 h => EV.ld rfl rfl rfl ((hF8 w1 h).cell (v := .slice (some ⟨g8, 0, none⟩) L8.length c8) rfl)) ?_
      (repeat (first | refine y_p (kk := ?_)))
      refine VW.Ord.pure rfl rfl rfl rfl (fun _ _ _ h => h) (fun w => EV.idx rfl rfl rfl rfl rfl (by omega) (by omega)) ?_
      refine VW.Ord.pure rfl rfl rfl rfl (fun _ _ _ h => h) (fun w => EV.fld rfl rfl (ev_top _ _ _)) ?_
      rw [add_zero', add_lit, Nat.zero_add, Int.toNat_natCast]
      refine VW.Ord.read' rfl rfl rfl rfl (fun _ _ _ h => h) (fun w1 h => EV.ld rfl rfl (ev_top _ _ _) (hFc w1 h)) ?_
      (repeat (first | refine y_p (kk := ?_)))
      refine VW.Ord.eff rfl ?_
      refine Ops.bs1 rfl rfl rfl rfl rfl rfl rfl rfl rfl (fun w10 r10 hM10 => ?_)
      have k10 := (k9.trans hM10.kp).mono (S' := fun k => kv.ownBlock = some k) (fun i _ e => by rcases e with e | e <;> exact e.elim)
      refine Ops.nil (W.endl ⟨fun _ => k10, ?_⟩)
      have hone := own_one hM10
      refine VW.Ord.eff rfl ?_
      have hown10 := own_kp (own_kp hown k9 (fun _ _ e => e.elim)) hM10.kp (fun _ _ e => e.elim)
      refine Ops.app (sz := 0) (news := [.int .i64 ((tr.length + 1 + P.2.length : Nat) : Int)]) (m := 1) (A := ⟨r10, 0, none⟩) (c := 1) rfl rfl rfl rfl rfl rfl rfl rfl rfl (ev_top _ _ _) hown10 rfl (hone.cells (g := r10) rfl) (by simp [Value.oneCell']) (by omega) (fun v11 w11 ho11 k11 hn11 => ?_)
      have hk11 := (k10.trans k11).mono (S' := fun k => kv.ownBlock = some k) (fun i _ e => by rcases e with e | e <;> exact e)
      refine Ops.nil (W.endl ⟨fun _ => hk11, ?_⟩)
      refine VW.Ord.pure rfl rfl rfl rfl (fun _ _ _ h => h) (fun w => EV.idx rfl rfl rfl rfl rfl (by omega) (by omega)) ?_
      refine VW.Ord.pure rfl rfl rfl rfl (fun _ _ _ h => h) (fun w => EV.fld rfl rfl (ev_top _ _ _)) ?_
      rw [add_zero', add_lit, Nat.zero_add, Int.toNat_natCast]
      have hrow11 := own_kp hQ8.row hk11 (fun k hk e => (hsep k e).2 hk)
      obtain ⟨g', cap', cur, e', hb', hcs'⟩ := own_blk hrow11 (by omega)
      cases e'
      refine VW.Ord.eff rfl ?_
      refine Ops.st (b := g8) (q := tr.length * 2) (cs := cur) rfl rfl rfl rfl (ev_top _ _ _) rfl ?_ hb' (by omega) (fun w12 hu12 => ?_)
      · obtain ⟨_, _, e⟩ := own_sl' ho11; rw [e]; rfl
      have hrow12 := own_set hrow11 hb' hu12
      have k12 : Kp (fun k => (Value.slice (some ⟨g8, 0, none⟩) L8.length c8).ownBlock = some k) w11 w12 := hu12.kp.mono (fun i _ e => by simp [Value.ownBlock, e])
      have hs10 := k10.size
      have hn11' : ∀ i, v11.ownBlock = some i → kv.ownBlock = some i ∨ w8.heap.size ≤ i := fun i hi => by
        rcases hn11 i hi with e | e
        · exact .inl e
        · exact .inr (by omega)
      have hQ12 := hgrow (x := ((tr.length + 1 + P.2.length : Nat) : Int)) ho11 hk11 hn11' hrow12 k12
      rw [hset] at hQ12
      have hout12 := hout hn11'
      refine Ops.nil (W.endl ⟨fun h => (by simp at h), ?_⟩)
      refine VW.Ord.nil ?_
      have hs11 := hk11.size
      have hs12 := hu12.size
      have hs8 := hk8.size
      have hkv8 : ∀ k, kv.ownBlock = some k → outB (.slice (some ⟨g8, 0, none⟩) L8.length c8) cvs8 k := fun k e => .inr ⟨tr.length, by rw [hQ8.len]; exact hlt8, by rw [hkv]; exact e⟩
      have hg8 : outB (.slice (some ⟨g8, 0, none⟩) L8.length c8) cvs8 g8 := .inl rfl
      have hk812 : Kp (fun k => outB (.slice (some ⟨g8, 0, none⟩) L8.length c8) cvs8 k) w8 w12 := (hk11.trans k12).mono (fun k _ e => by
        rcases e with e | e
        · exact hkv8 k e
        · exact .inl e)
      have hne8 : ∀ k, outB (.slice (some ⟨g8, 0, none⟩) L8.length c8) cvs8 k → wB.heap.size ≤ k := fun k hk => (hQ8.lt hk).1
      have hI12 : VisI w0 wB w12 b1 b6 b7 b8 b9 (.slice (some ⟨g8, 0, none⟩) L8.length c8) (tr ++ ((kT (subT (SS l dep vs) l N) tr.length ((SS l dep vs i).take (j + 1))).1, wor l i) :: (kT (subT (SS l dep vs) l N) tr.length ((SS l dep vs i).take (j + 1))).2) (cvs8.set tr.length v11) := by
        refine ⟨Kp.then hI8.bel hI8.bel.size hk812 (fun k hk => by have := hne8 k hk; omega), hI8.B9.kp hk812 (fun hk => by have := hne8 _ hk; omega), hB8_8.kp hk812 (fun hk => by have := hne8 _ hk; omega), ?_, by have := hI8.hB; omega⟩
        rw [hsn]
        exact hQ12
      (repeat (first | with_reducible refine Ops.nil ?_ | with_reducible refine W.region ?_ | refine z_p (kk := ?_) | refine z_a (kk := ?_) | with_reducible refine W.endb ?_))
      refine W.endl ⟨_, _, ⟨⟨j + 1, _, _, rfl, by omega, rfl, hI12, ?_, ?_, ?_, ?_, ?_⟩, by omega⟩, (by repeat (first | exact trivial | refine And.intro rfl ?_))⟩
      · refine hS8.kp hk812 (fun k hk e => ?_)
        have := hv4b k hk
        rcases hn8 k e with h | h
        · rcases hn7' k h with h | h <;> omega
        · omega
      · refine ((hk7.trans hk8).trans hk812).mono (fun k hk e => ?_)
        rcases e with (e | (e | e)) | e
        · exact e
        · exact .inl e
        · rcases hn7 k e with h | h
          · exact .inr h
          · omega
        · rcases hn8 k e with h | h
          · rcases hn7 k h with h | h
            · exact .inr h
            · omega
          · have := hk7.size; omega
      · intro k hk
        rcases hout12 k hk with h | h
        · rcases hn8 k h with h | h
          · exact hn7 k h
          · have := hk7.size; exact .inr (by omega)
        · have := hk7.size; exact .inr (by omega)
      · intro k hk
        rcases hout12 k hk with h | h
        · rcases hn8 k h with h | h
          · exact hn7' k h
          · exact .inr (by omega)
        · exact .inr (by omega)
      · omega
    · have hjl : j = (SS l dep vs i).length := by omega
      subst hjl
      rw [List.take_length] at hI7
      (repeat (first | with_reducible refine W.seq ?_ | with_reducible refine Ops.nil ?_ | with_reducible refine W.region ?_ | refine z_p (kk := ?_) | refine W.exit rfl ?_))
      exact W.fret rfl ⟨ov, cvs', rfl, hI7, hk7, hn7⟩
end Go.Proofs.Ytdiljpnfochndaa
namespace Go.Proofs.Ytdiljpnfochndaa
open Go Go.RowKit Go.Proofs.Ytdiljpnfochndaa.VW
open Go.Proofs.Ytdiljpnfochndaa.HP (Nd kid wor leafB rd evB sg TF kT subT subO SS gameOf gameOf_TF ValP SS_ord subO_len)
attribute [local irreducible] W Ops OrdA VW.Ord OrdX
def sortM (l : List Nd) (dep vs : List Int) : List Nd := subT (SS l dep vs) l l.length 0 0
def SortR (l : List Nd) (w w' : World) (r : Value) : Prop := (gameOf l).elim (r = .tuple #[.slice none 0 0, .int .i64 2]) fun dep => ∃ vs ov cvs, ValP l dep (wor l) vs ∧ r = .tuple #[ov, .int .i64 0] ∧ TQ w.heap.size w' ov (sortM l dep vs) cvs
theorem val_bds {l : List Nd} {dep vs : List Int} (hT : TF l dep) (hv : ValP l dep (wor l) vs) (j : Nat) : -1099511627776 ≤ vs.getD j 0 ∧ vs.getD j 0 ≤ 1099511627776 := by
  by_cases h : j < l.length
  · have := Go.Proofs.Ytdiljpnfochndaa.HP.val_bd hT hv (lo := -100) (hi := 100) (fun i hi _ => by have := hT.wor i hi; omega) j h
    omega
  · have := hv.len
    rw [List.getD_eq_getElem?_getD, List.getElem?_eq_none (by omega)]
    simp
set_option maxHeartbeats 4000000 in
theorem sorted_c {w : World} {v : Value} {l : List Nd} (hT : TreeM w v l) (hl : l.length ≤ 9223372036854775807) :
    Calls Try.prog 50 #[v] w (Ret fun r w' => Below w.heap.size w w' ∧ SortR l w w' r) := by
  obtain ⟨At, ct, rfl⟩ := hT.sl
  refine calls_W (vs := [_]) Try.func50 rfl (by kernel_rfl) rfl ?_
  (repeat (first | with_reducible refine W.seq ?_ | with_reducible refine W.region ?_))
  refine Ops.box rfl rfl rfl rfl (fun w1 b1 hM1 => ?_)
  have hb1 : Below w.heap.size w w1 := Below.put (Below.refl _ _) hM1.kp (fun _ e => e.elim)
  have hB1 : Blk w1 b1 #[.slice At l.length ct] 22 := hM1.at_
  have hT1 := hT.below hb1
  (repeat (first | with_reducible refine W.seq ?_ | with_reducible refine Ops.nil ?_ | with_reducible refine W.region ?_ | refine z_p (kk := ?_) | refine z_d (kk := ?_)))
  refine Ops.call rfl rfl rfl rfl rfl (newGame_c hT1 hl) (fun r w2 hR => ?_)
  obtain ⟨hb12, hR⟩ := hR
  have hb2 := Below.via hb1 hb12
  cases hg : gameOf l with
  | none =>
    rw [hg] at hR
    obtain ⟨p, hp1, rfl⟩ := hR
    (repeat (first | with_reducible refine W.seq ?_ | with_reducible refine Ops.nil ?_ | with_reducible refine W.region ?_ | refine z_p (kk := ?_)))
    refine W.condT rfl (by first | rfl | assumption | (simp only [bnf] <;> omega) | (simp only [*, bnf]; done) | fail) ?_
    (repeat (first | with_reducible refine W.seq ?_ | with_reducible refine Ops.nil ?_ | with_reducible refine W.region ?_ | refine z_p (kk := ?_)))
    exact W.fret rfl ⟨hb2, by unfold SortR; rw [hg]; rfl⟩
  | some dep =>
    rw [hg] at hR
    obtain ⟨g, rfl, hgs, hG⟩ := hR
    have hTF := gameOf_TF hg
    (repeat (first | with_reducible refine W.seq ?_ | with_reducible refine Ops.nil ?_ | with_reducible refine W.region ?_ | refine z_p (kk := ?_)))
    refine W.condF rfl (by first | rfl | assumption | (simp only [bnf] <;> omega) | (simp only [*, bnf]; done) | fail) ?_
    (repeat (first | with_reducible refine W.seq ?_ | with_reducible refine W.region ?_ | refine z_p (kk := ?_) | with_reducible refine W.skip ?_))
    refine Ops.alloc rfl rfl rfl rfl (fun w3 b6 hM3 => ?_)
    refine Ops.st rfl rfl rfl rfl rfl rfl rfl hM3.at_ (by decide) (fun w4 hu4 => ?_)
    have k4 := hM3.kp.trans hu4.kp
    have e3 := hM3.r_eq
    have hb24 : Below w2.heap.size w2 w4 := Below.put (Below.refl _ _) k4 (fun i hi => by rcases hi with hi | hi; exact hi.elim; omega)
    have hb4 := Below.via hb2 hb24
    have hB6 : Blk w4 b6 #[.func (.func 85) #[.pointer (some ⟨g, 0, none⟩)] #[]] 95 := hu4.blk
    have hG4 := hG.below hb24
    (repeat (first | with_reducible refine W.seq ?_ | with_reducible refine Ops.nil ?_ | with_reducible refine W.region ?_ | refine z_p (kk := ?_)))
    refine Ops.call rfl rfl rfl rfl rfl (values_c hG4 hTF (Clo.worth hG4)) (fun r w5 hR => ?_)
    obtain ⟨vs, hvs, hI⟩ := hR
    have hb45 := hI.bel
    have hv5 : SlI w5 r vs := hI.sl
    have hr1 : r.oneCell' = true := by obtain ⟨A, c, rfl⟩ := Sl.sl hv5; rfl
    refine Ops.alloc rfl rfl rfl rfl (fun w6 b7 hM6 => ?_)
    refine Ops.st rfl rfl rfl rfl rfl rfl hr1 hM6.at_ (by decide) (fun w7 hu7 => ?_)
    have k7 := hM6.kp.trans hu7.kp
    have e6 := hM6.r_eq
    have hb57 : Below w5.heap.size w5 w7 := Below.put (Below.refl _ _) k7 (fun i hi => by rcases hi with hi | hi; exact hi.elim; omega)
    have hB7 : Blk w7 b7 #[r] 24 := hu7.blk
    have hb47 := Below.via hb45 hb57
    have hb27 := Below.via hb24 hb47
    have hb7 := Below.via hb4 hb47
    have hG7 := hG4.below hb47
    have hv7 := Sl.below hv5 hb57
    have hB6' := hB6.kp (Kp.of_below (S := fun _ => False) hb47) (fun e => e)
    have hB1' := hB1.kp (Kp.of_below (S := fun _ => False) (Below.via hb12 hb27)) (fun e => e)
    have hT7 := hT.below hb7
    (repeat (first | with_reducible refine W.seq ?_ | with_reducible refine Ops.nil ?_ | with_reducible refine W.region ?_))
    refine Ops.alloc rfl rfl rfl rfl (fun w8 b8 hM8 => ?_)
    have e8 := hM8.r_eq
    have s8 := hM8.size
    have hB8 : Blk w8 b8 #[.slice none 0 0] 22 := hM8.at_
    (repeat (first | with_reducible refine W.seq ?_ | with_reducible refine Ops.nil ?_ | with_reducible refine W.region ?_))
    refine Ops.alloc rfl rfl rfl rfl (fun w9 b9 hM9 => ?_)
    have e9 := hM9.r_eq
    have s9 := hM9.size
    have hB8' := hB8.kp hM9.kp (fun e => e)
    (repeat (first | with_reducible refine W.seq ?_ | with_reducible refine Ops.nil ?_ | with_reducible refine W.region ?_ | refine z_p (kk := ?_)))
    refine Ops.st rfl rfl rfl rfl rfl rfl rfl hM9.at_ (by decide) (fun w10 hu10 => ?_)
    have s10 := hu10.size
    have k10 := ((hM8.kp.trans hM9.kp).trans hu10.kp).mono (S' := fun i => i = b9) (fun i _ e => by
      rcases e with (e | e) | e
      · exact e.elim
      · exact e.elim
      · exact e)
    have hb710 : Below w7.heap.size w7 w10 := Below.put (Below.refl _ _) k10 (fun i hi => by omega)
    have hI10 : VisI w7 w10 w10 b1 b6 b7 b8 b9 (.slice none 0 0) [] [] :=
      ⟨hb710, hu10.blk, hB8'.kp hu10.kp (by omega), TQ.nil _ _, Nat.le_refl _⟩
    have hV : VisB w7 w10 b1 b6 b7 b8 b9 g (.slice At l.length ct) r l dep vs := ⟨hB1', hB6', hB7, hG7, hT7, hv7, by omega, by omega, by omega⟩
    have hn1 := hTF.n1
    have hn60 := hTF.n60
    have hlen := subO_len (SS_ord l dep vs) hTF l.length 0 (by omega)
    have hB9 := hI10.B9
    (repeat (first | with_reducible refine W.seq ?_ | with_reducible refine Ops.nil ?_ | with_reducible refine W.region ?_ | refine z_d (kk := ?_)))
    refine Ops.call rfl rfl rfl rfl rfl (visit_c hV hTF hvs.len (val_bds hTF hvs) l.length w10 0 _ _ _ (by omega) (by omega) hI10 (by simp only [List.length_nil]; omega)) (fun v w11 hR => ?_)
    obtain ⟨ov, cvs, rfl, hI11, hk11, hn11⟩ := hR
    have hB8_11 := hI11.B8
    (repeat (first | with_reducible refine W.seq ?_ | with_reducible refine Ops.nil ?_ | with_reducible refine W.region ?_ | refine z_p (kk := ?_) | refine z_d (kk := ?_)))
    have hQ := hI11.Q
    have hb27s := hb27.size
    have hb12s := hb12.size
    have hb1s := hb1.size
    have hb2s := hb2.size
    exact W.fret rfl ⟨Below.via hb7 hI11.bel, by
      unfold SortR
      rw [hg]
      refine ⟨vs, ov, cvs, hvs, rfl, ?_⟩
      have := hI11.Q
      rw [List.nil_append] at this
      refine ⟨fun k hk => ?_, this.len, this.row, this.own, fun j hj k hk => ?_, this.two⟩
      · have := this.ge k hk; omega
      · have := this.sep j hj k hk; exact ⟨by omega, this.2⟩⟩
end Go.Proofs.Ytdiljpnfochndaa
/- An insertion into a sorted list. -/
namespace Go.Proofs.Ytdiljpnfochndaa.HP
theorem ins_pw {K : Int → Int} {cs : List Int} {c : Int} {j : Nat} (hp : cs.Pairwise fun a b => K a < K b) (hj : j ≤ cs.length) (hlo : ∀ x : Nat, x < j → K (cs.getD x 0) < K c) (hhi : j = cs.length ∨ K c < K (cs.getD j 0)) : (cs.take j ++ [c] ++ cs.drop j).Pairwise fun a b => K a < K b := by
  have hlo' : ∀ a ∈ cs.take j, K a < K c := fun a ha => by
    obtain ⟨x, hx, rfl⟩ := List.mem_iff_getElem.1 ha
    rw [List.length_take] at hx
    have := hlo x (by omega)
    simpa [List.getD_eq_getElem?_getD, show x < cs.length by omega] using this
  have hhi' : ∀ b ∈ cs.drop j, K c < K b := fun b hb => by
    obtain ⟨x, hx, rfl⟩ := List.mem_iff_getElem.1 hb
    rw [List.length_drop] at hx
    rcases hhi with h | h
    · omega
    · rw [List.getElem_drop]
      have h' : K c < K cs[j] := by simpa [List.getD_eq_getElem?_getD, show j < cs.length by omega] using h
      cases x with
      | zero => simpa using h'
      | succ x =>
        have := List.pairwise_iff_getElem.1 hp j (j + (x + 1)) (by omega) (by omega) (by omega)
        exact Int.lt_trans h' this
  have htd : (cs.take j ++ cs.drop j).Pairwise fun a b => K a < K b := by rw [List.take_append_drop]; exact hp
  rw [List.pairwise_append] at htd
  rw [List.append_assoc, List.pairwise_append]
  refine ⟨htd.1, ?_, fun a ha b hb => ?_⟩
  · rw [List.singleton_append, List.pairwise_cons]
    exact ⟨hhi', htd.2.1⟩
  · rw [List.singleton_append] at hb
    rcases List.mem_cons.1 hb with rfl | hb
    · exact hlo' a ha
    · exact htd.2.2 a ha b hb
theorem ins_perm {cs : List Int} {c : Int} {j : Nat} : (cs.take j ++ [c] ++ cs.drop j).Perm (cs ++ [c]) := by
  have h : (cs.take j ++ [c] ++ cs.drop j).Perm (cs.take j ++ (cs.drop j ++ [c])) := by
    rw [List.append_assoc]
    exact List.Perm.append_left _ List.perm_append_comm
  rw [← List.append_assoc, List.take_append_drop] at h
  exact h
end Go.Proofs.Ytdiljpnfochndaa.HP
namespace Go.Proofs.Ytdiljpnfochndaa
open Go Go.RowKit Go.Proofs.Ytdiljpnfochndaa.VW
open Go.Proofs.Ytdiljpnfochndaa.HP (Nd kid wor leafB k_ Dn TK TF gameOf gameOf_TF ValP NV)
attribute [local irreducible] W Ops OrdA VW.Ord OrdX
theorem bgetD_set_eq {bs : List Bool} {c : Nat} {x : Bool} (h : c < bs.length) : (bs.set c x).getD c false = x := by
  rw [List.getD_eq_getElem?_getD, List.getElem?_set_self h]; rfl
theorem bgetD_set_ne {bs : List Bool} {c d : Nat} {x : Bool} (h : c ≠ d) : (bs.set c x).getD d false = bs.getD d false := by
  rw [List.getD_eq_getElem?_getD, List.getElem?_set_ne h, ← List.getD_eq_getElem?_getD]
def worOk (l : List Nd) (a : Nat) : Prop := -100 ≤ wor l a ∧ wor l a ≤ 100 ∧ (0 < (kid l a).length → wor l a = 0)
structure SI (l : List Nd) (i j q : Nat) (bs : List Bool) : Prop where
  len : bs.length = l.length
  p1 : ∀ a b, Dn i j a b → b < (kid l a).length → (a : Int) < k_ l a b ∧ k_ l a b < l.length ∧ bs.getD (k_ l a b).toNat false = true
  p2 : ∀ c : Nat, bs.getD c false = true → ∃ a b, Dn i j a b ∧ b < (kid l a).length ∧ k_ l a b = c
  p3 : ∀ a b a' b', Dn i j a b → b < (kid l a).length → Dn i j a' b' → b' < (kid l a').length → k_ l a b = k_ l a' b' → a = a' ∧ b = b'
  wo : ∀ a, a < q → worOk l a
theorem SI.start (l : List Nd) : SI l 0 0 0 (List.replicate l.length false) :=
  ⟨by simp, fun a b h => by unfold Dn at h; omega, fun c h => by rw [List.getD_eq_getElem?_getD, List.getElem?_replicate] at h; split at h <;> simp at h, fun a b a' b' h => by unfold Dn at h; omega, fun a h => by omega⟩
theorem SI.step {l : List Nd} {i j q : Nat} {bs : List Bool} (h : SI l i j q bs) (hj : j < (kid l i).length) (h1 : (i : Int) < k_ l i j) (h2 : k_ l i j < l.length) (h3 : bs.getD (k_ l i j).toNat false = false) : SI l i (j + 1) q (bs.set (k_ l i j).toNat true) := by
  have hl := h.len
  have hsub : ∀ a b, Dn i (j + 1) a b → Dn i j a b ∨ (a = i ∧ b = j) := by intro a b hd; unfold Dn at *; omega
  have hold : ∀ a b, Dn i j a b → b < (kid l a).length → (k_ l a b).toNat ≠ (k_ l i j).toNat := fun a b hd hb e => by
    have := (h.p1 a b hd hb).2.2
    rw [e, h3] at this; cases this
  refine ⟨by simpa using hl, fun a b hd hb => ?_, fun c hc => ?_, fun a b a' b' hd hb hd' hb' he => ?_, h.wo⟩
  · rcases hsub a b hd with hd | ⟨rfl, rfl⟩
    · obtain ⟨q1, q2, q3⟩ := h.p1 a b hd hb
      exact ⟨q1, q2, by rw [bgetD_set_ne (Ne.symm (hold a b hd hb))]; exact q3⟩
    · exact ⟨h1, h2, bgetD_set_eq (by omega)⟩
  · by_cases e : (k_ l i j).toNat = c
    · exact ⟨i, j, .inr ⟨rfl, by omega⟩, hj, by omega⟩
    · rw [bgetD_set_ne e] at hc
      obtain ⟨a, b, hd, hb, hk⟩ := h.p2 c hc
      exact ⟨a, b, by unfold Dn at *; omega, hb, hk⟩
  · rcases hsub a b hd with hd | ⟨rfl, rfl⟩ <;> rcases hsub a' b' hd' with hd' | ⟨rfl, rfl⟩
    · exact h.p3 a b a' b' hd hb hd' hb' he
    · exact absurd (by rw [he]) (hold a b hd hb)
    · exact absurd (by rw [he]) (hold a' b' hd' hb')
    · exact ⟨rfl, rfl⟩
theorem SI.next {l : List Nd} {i : Nat} {bs : List Bool} (h : SI l i (kid l i).length (i + 1) bs) : SI l (i + 1) 0 (i + 1) bs := by
  have hd : ∀ a b, Dn (i + 1) 0 a b → b < (kid l a).length → Dn i (kid l i).length a b := by
    intro a b hd hb
    unfold Dn at *
    by_cases e : a = i
    · subst e; exact .inr ⟨rfl, hb⟩
    · omega
  exact ⟨h.len, fun a b h1 h2 => h.p1 a b (hd a b h1 h2) h2, fun c hc => by obtain ⟨a, b, h1, h2, h3⟩ := h.p2 c hc; exact ⟨a, b, by unfold Dn at *; omega, h2, h3⟩, fun a b a' b' h1 h2 h1' h2' he => h.p3 a b a' b' (hd a b h1 h2) h2 (hd a' b' h1' h2') h2' he, h.wo⟩
theorem tk_game {l : List Nd} : TK l ↔ (gameOf l).isSome = true := by
  constructor
  · intro h; obtain ⟨dep, hd⟩ := h.game; rw [hd]; rfl
  · intro h
    cases hg : gameOf l with
    | none => rw [hg] at h; cases h
    | some dep => exact (gameOf_TF hg).tk
theorem no_game {l : List Nd} (h : ¬ TK l) : (gameOf l).isSome = false := by
  cases hs : (gameOf l).isSome
  · rfl
  · exact absurd (tk_game.2 hs) h
theorem bound_c (b : Int) (w : World) : Calls Try.prog 21 #[.int .i64 b] w (Ret fun v w' => v = .bool (decide (-1000 ≤ b ∧ b ≤ 1000)) ∧ w' = w) := by
  refine calls_W (vs := [_]) Try.func21 rfl (by kernel_rfl) rfl ?_
  by_cases h1 : -1000 ≤ b
  · (repeat (first | with_reducible refine W.seq ?_ | with_reducible refine Ops.nil ?_ | with_reducible refine W.region ?_ | refine z_p (kk := ?_) | refine z_y (kk := ?_) | refine z_h (kk := ?_)))
    refine W.fret rfl ⟨?_, rfl⟩
    simp [resV, h1]
  · (repeat (first | with_reducible refine W.seq ?_ | with_reducible refine Ops.nil ?_ | with_reducible refine W.region ?_ | refine z_p (kk := ?_) | refine z_n (kk := ?_) | refine z_g (kk := ?_)))
    refine W.fret rfl ⟨?_, rfl⟩
    simp [resV, h1]
set_option maxHeartbeats 2000000 in
theorem refTree_c {w : World} {v : Value} {l : List Nd} (hTr : TreeM w v l) (hkl : ∀ i : Nat, i < l.length → (kid l i).length ≤ 1000) : Calls Try.prog 20 #[v] w (Ret fun r w' => r = .bool (gameOf l).isSome ∧ Below w.heap.size w w') := by
  obtain ⟨At, ct, rfl⟩ := hTr.sl
  refine calls_W (vs := [_]) Try.func20 rfl (by kernel_rfl) rfl ?_
  by_cases hn : 1 ≤ l.length ∧ l.length ≤ 60
  · obtain ⟨hn1, hn60⟩ := hn
    (repeat (first | with_reducible refine W.seq ?_ | with_reducible refine Ops.nil ?_ | with_reducible refine W.region ?_ | refine z_p (kk := ?_) | refine z_y (kk := ?_) | refine z_l (kk := ?_) | refine z_h (kk := ?_)))
    refine W.condF rfl (by first | rfl | assumption | (simp only [bnf] <;> omega) | (simp only [*, bnf]; done) | fail) ?_
    (repeat (first | with_reducible refine W.seq ?_ | with_reducible refine W.region ?_ | refine z_p (kk := ?_) | with_reducible refine W.skip ?_))
    refine Ops.mkO (w0 := w) Value.bool false rfl rfl rfl rfl rfl rfl rfl rfl rfl (by omega) rfl (Below.refl _ _) (fun w2 dr hO2 k2 _ => ?_)
    have hS2 := SI.start l
    generalize List.replicate l.length false = os2 at *
    (repeat (first | with_reducible refine W.seq ?_ | with_reducible refine Ops.nil ?_ | with_reducible refine W.region ?_ | refine z_p (kk := ?_) | with_reducible refine W.block ?_))
    refine W.loop (fun m ρ w3 => ∃ (i : Nat) (bs : List Bool), m = l.length - i ∧ i ≤ l.length ∧ ρ = [(0, .slice At l.length ct), (3, .int .i64 l.length), (4, .slice (some ⟨dr, 0, none⟩) l.length l.length), (5, .int .i64 i)] ∧ OI 4 Value.bool w w3 (.slice (some ⟨dr, 0, none⟩) l.length l.length) bs ∧ SI l i 0 i bs)
      ⟨_, _, ⟨0, _, rfl, Nat.zero_le _, rfl, hO2, hS2⟩, (by repeat (first | exact trivial | refine And.intro rfl ?_))⟩ ?_
    clear hO2 hS2
    rintro m ρ w3 ⟨i, bs, rfl, hi, rfl, hO, hS⟩
    have hb3 := hO.bel
    (repeat (first | with_reducible refine W.seq ?_ | with_reducible refine Ops.nil ?_ | with_reducible refine W.region ?_ | refine z_p (kk := ?_)))
    (first | refine W.condD rfl (fun hc => ?_) (fun hc => ?_) | refine W.condE rfl (fun hc => ?_) (fun hc => ?_) | refine W.condN rfl (fun hc => ?_) (fun hc => ?_) | refine W.cond rfl (fun hc => ?_) (fun hc => ?_))
    · have hil : i < l.length := by omega
      by_cases hw : worOk l i
      · have hw1 := hw.1
        have hw2 := hw.2.1
        have hw3 := hw.2.2
        have hS1 : SI l i 0 (i + 1) bs := ⟨hS.len, hS.p1, hS.p2, hS.p3, fun a ha => by by_cases e : a = i; subst e; exact hw; exact hS.wo a (by omega)⟩
        (repeat (first | with_reducible refine W.seq ?_ | with_reducible refine W.region ?_ | refine z_p (kk := ?_) | refine z_y (kk := ?_) | with_reducible refine W.skip ?_ | with_reducible refine W.block ?_ | refine z_l (kk := ?_) | refine z_k (kk := fun _ _ _ _ _ => ?_) | refine z_w (kk := fun _ _ => ?_) | refine z_h (kk := ?_)))
        refine Ops.cut (fun ρ w' => ρ = [(0, .slice At l.length ct), (3, .int .i64 l.length), (4, .slice (some ⟨dr, 0, none⟩) l.length l.length), (5, .int .i64 i), (54, .bool false)] ∧ w' = w3) ?_ ?_
        · by_cases hk0 : 0 < (kid l i).length
          · have := hw3 hk0
            (repeat (first | with_reducible refine Ops.nil ?_ | refine z_p (kk := ?_) | refine z_y (kk := ?_) | refine z_w (kk := fun _ _ => ?_) | refine z_h (kk := ?_)))
            exact W.endl ⟨_, ⟨rfl, rfl⟩, (by repeat (first | exact trivial | refine And.intro rfl ?_ | refine And.intro (look_b rfl (by first | rfl | assumption | (simp only [bnf] <;> omega) | (simp only [*, bnf]; done) | fail)) ?_))⟩
          · (repeat (first | with_reducible refine Ops.nil ?_ | refine z_p (kk := ?_) | refine z_y (kk := ?_) | refine z_n (kk := ?_) | refine z_g (kk := ?_)))
            exact W.endl ⟨_, ⟨rfl, rfl⟩, (by repeat (first | exact trivial | refine And.intro rfl ?_ | refine And.intro (look_b rfl (by first | rfl | assumption | (simp only [bnf] <;> omega) | (simp only [*, bnf]; done) | fail)) ?_))⟩
        rintro ρ w6 ⟨rfl, rfl⟩
        refine W.condF rfl (by first | rfl | assumption | (simp only [bnf] <;> omega) | (simp only [*, bnf]; done) | fail) ?_
        (repeat (first | with_reducible refine W.seq ?_ | with_reducible refine Ops.nil ?_ | with_reducible refine W.region ?_ | refine z_p (kk := ?_) | with_reducible refine W.skip ?_ | with_reducible refine W.block ?_))
        refine W.loop (fun m ρ w4 => ∃ (j : Nat) (bs : List Bool), m = (kid l i).length - j ∧ j ≤ (kid l i).length ∧ ρ = [(0, .slice At l.length ct), (3, .int .i64 l.length), (4, .slice (some ⟨dr, 0, none⟩) l.length l.length), (5, .int .i64 i), (6, .int .i64 j)] ∧ OI 4 Value.bool w w4 (.slice (some ⟨dr, 0, none⟩) l.length l.length) bs ∧ SI l i j (i + 1) bs)
          ⟨_, _, ⟨0, _, rfl, Nat.zero_le _, rfl, hO, hS1⟩, (by repeat (first | exact trivial | refine And.intro rfl ?_))⟩ ?_
        clear hO hS hS1 hb3
        rintro m ρ w4 ⟨j, bs, rfl, hj, rfl, hO, hS⟩
        have hb4 := hO.bel
        have hkli := hkl i hil
        have hbl := hS.len
        (repeat (first | with_reducible refine W.seq ?_ | with_reducible refine Ops.nil ?_ | with_reducible refine W.region ?_ | refine z_p (kk := ?_) | refine z_l (kk := ?_) | refine z_k (kk := fun _ _ _ _ _ => ?_)))
        (first | refine W.condD rfl (fun hc => ?_) (fun hc => ?_) | refine W.condE rfl (fun hc => ?_) (fun hc => ?_) | refine W.condN rfl (fun hc => ?_) (fun hc => ?_) | refine W.cond rfl (fun hc => ?_) (fun hc => ?_))
        · have hjl : j < (kid l i).length := by omega
          (repeat (first | with_reducible refine W.seq ?_ | with_reducible refine Ops.nil ?_ | with_reducible refine W.region ?_ | refine z_p (kk := ?_) | with_reducible refine W.skip ?_ | with_reducible refine W.block ?_ | refine z_I (kk := fun _ => ?_) | refine z_k (kk := fun _ _ _ _ _ => ?_)))
          by_cases hok : (i : Int) < k_ l i j ∧ k_ l i j < l.length ∧ bs.getD (k_ l i j).toNat false = false
          · obtain ⟨q1, q2, q3⟩ := hok
            have hst := hS.step hjl q1 q2 q3
            simp only [k_] at q1 q2 q3 hst
            (repeat (first | with_reducible refine Ops.nil ?_ | refine z_p (kk := ?_) | refine z_y (kk := ?_) | refine z_L (kk := fun _ => ?_) | refine z_h (kk := ?_)))
            refine W.condF rfl (by first | rfl | assumption | (simp only [bnf] <;> omega) | (simp only [*, bnf]; done) | fail) ?_
            (repeat (first | with_reducible refine W.region ?_ | refine z_p (kk := ?_) | with_reducible refine W.skip ?_))
            refine Ops.wrOi (enc := Value.bool) rfl rfl rfl rfl rfl rfl rfl rfl rfl rfl rfl rfl (by simp) rfl hO (by omega) (by omega) (fun w5 _ hO5 _ _ => ?_)
            (repeat (first | with_reducible refine Ops.nil ?_ | with_reducible refine W.region ?_ | refine z_p (kk := ?_) | refine z_a (kk := ?_) | with_reducible refine W.endb ?_))
            exact W.endl ⟨_, _, ⟨⟨j + 1, _, rfl, by omega, rfl, hO5, hst⟩, by omega⟩, (by repeat (first | exact trivial | refine And.intro rfl ?_))⟩
          · have hno : (gameOf l).isSome = false := no_game fun hT => by
              have hk := hT.kin i j hil hjl
              refine hok ⟨hk.1, hk.2, ?_⟩
              cases hb : bs.getD (k_ l i j).toNat false
              · rfl
              · obtain ⟨a, b, h1, h2, h3⟩ := hS.p2 _ hb
                have ha : a < l.length := by unfold Dn at h1; omega
                have := hT.inj a b i j ha h2 hil hjl (by rw [h3]; omega)
                unfold Dn at h1; omega
            have hfin : ∀ w', Below w.heap.size w w' → (Value.bool false = .bool (gameOf l).isSome ∧ Below w.heap.size w w') := fun w' h => ⟨by rw [hno], h⟩
            simp only [k_] at hok
            by_cases q1 : (i : Int) < (kid l i).getD j 0
            · by_cases q2 : (kid l i).getD j 0 < l.length
              · have q3 : bs.getD ((kid l i).getD j 0).toNat false = true := by
                  cases hb : bs.getD ((kid l i).getD j 0).toNat false
                  · exact absurd ⟨q1, q2, hb⟩ hok
                  · rfl
                (repeat (first | with_reducible refine Ops.nil ?_ | refine z_p (kk := ?_) | refine z_y (kk := ?_) | refine z_L (kk := fun _ => ?_) | refine z_h (kk := ?_)))
                refine W.condT rfl (by first | rfl | assumption | (simp only [bnf] <;> omega) | (simp only [*, bnf]; done) | fail) ?_
                (repeat (first | with_reducible refine W.seq ?_ | with_reducible refine Ops.nil ?_ | with_reducible refine W.region ?_ | refine z_p (kk := ?_)))
                exact W.fret rfl (hfin _ hb4)
              · (repeat (first | with_reducible refine Ops.nil ?_ | refine z_p (kk := ?_) | refine z_y (kk := ?_) | refine z_n (kk := ?_) | refine z_g (kk := ?_) | refine z_h (kk := ?_)))
                refine W.condT rfl (by first | rfl | assumption | (simp only [bnf] <;> omega) | (simp only [*, bnf]; done) | fail) ?_
                (repeat (first | with_reducible refine W.seq ?_ | with_reducible refine Ops.nil ?_ | with_reducible refine W.region ?_ | refine z_p (kk := ?_)))
                exact W.fret rfl (hfin _ hb4)
            · (repeat (first | with_reducible refine Ops.nil ?_ | refine z_p (kk := ?_) | refine z_n (kk := ?_) | refine z_g (kk := ?_)))
              refine W.condT rfl (by first | rfl | assumption | (simp only [bnf] <;> omega) | (simp only [*, bnf]; done) | fail) ?_
              (repeat (first | with_reducible refine W.seq ?_ | with_reducible refine Ops.nil ?_ | with_reducible refine W.region ?_ | refine z_p (kk := ?_)))
              exact W.fret rfl (hfin _ hb4)
        · have hjl : j = (kid l i).length := by omega
          subst hjl
          have hn := hS.next
          (repeat (first | with_reducible refine Ops.nil ?_ | with_reducible refine W.region ?_ | refine z_p (kk := ?_) | refine z_a (kk := ?_) | with_reducible refine W.endb ?_ | refine W.exit rfl ?_))
          exact W.endl ⟨_, _, ⟨⟨i + 1, _, rfl, by omega, rfl, hO, hn⟩, by omega⟩, (by repeat (first | exact trivial | refine And.intro rfl ?_))⟩
      · have hno : (gameOf l).isSome = false := no_game fun hT => hw (hT.wor i hil)
        have hfin : ∀ w', Below w.heap.size w w' → (Value.bool false = .bool (gameOf l).isSome ∧ Below w.heap.size w w') := fun w' h => ⟨by rw [hno], h⟩
        by_cases q1 : wor l i < -100
        · (repeat (first | with_reducible refine W.seq ?_ | with_reducible refine Ops.nil ?_ | with_reducible refine W.region ?_ | refine z_p (kk := ?_) | refine z_n (kk := ?_) | refine z_u (kk := ?_) | with_reducible refine W.skip ?_ | with_reducible refine W.block ?_ | refine z_w (kk := fun _ _ => ?_) | refine z_g (kk := ?_)))
          refine W.condT rfl (by first | rfl | assumption | (simp only [bnf] <;> omega) | (simp only [*, bnf]; done) | fail) ?_
          (repeat (first | with_reducible refine W.seq ?_ | with_reducible refine Ops.nil ?_ | with_reducible refine W.region ?_ | refine z_p (kk := ?_)))
          exact W.fret rfl (hfin _ hb3)
        · by_cases q2 : wor l i > 100
          · (repeat (first | with_reducible refine W.seq ?_ | with_reducible refine Ops.nil ?_ | with_reducible refine W.region ?_ | refine z_p (kk := ?_) | refine z_y (kk := ?_) | refine z_n (kk := ?_) | refine z_u (kk := ?_) | with_reducible refine W.skip ?_ | with_reducible refine W.block ?_ | refine z_w (kk := fun _ _ => ?_) | refine z_g (kk := ?_) | refine z_h (kk := ?_)))
            refine W.condT rfl (by first | rfl | assumption | (simp only [bnf] <;> omega) | (simp only [*, bnf]; done) | fail) ?_
            (repeat (first | with_reducible refine W.seq ?_ | with_reducible refine Ops.nil ?_ | with_reducible refine W.region ?_ | refine z_p (kk := ?_)))
            exact W.fret rfl (hfin _ hb3)
          · have q3 : 0 < (kid l i).length ∧ wor l i ≠ 0 := by
              refine Classical.byContradiction fun h => hw ⟨by omega, by omega, fun hp => by omega⟩
            obtain ⟨q3, q4⟩ := q3
            (repeat (first | with_reducible refine W.seq ?_ | with_reducible refine Ops.nil ?_ | with_reducible refine W.region ?_ | refine z_p (kk := ?_) | refine z_y (kk := ?_) | with_reducible refine W.skip ?_ | with_reducible refine W.block ?_ | refine z_l (kk := ?_) | refine z_k (kk := fun _ _ _ _ _ => ?_) | refine z_w (kk := fun _ _ => ?_) | refine z_h (kk := ?_)))
            refine W.condT rfl (by first | rfl | assumption | (simp only [bnf] <;> omega) | (simp only [*, bnf]; done) | fail) ?_
            (repeat (first | with_reducible refine W.seq ?_ | with_reducible refine Ops.nil ?_ | with_reducible refine W.region ?_ | refine z_p (kk := ?_)))
            exact W.fret rfl (hfin _ hb3)
    · have hil : i = l.length := by omega
      subst hil
      (repeat (first | with_reducible refine W.seq ?_ | with_reducible refine Ops.nil ?_ | with_reducible refine W.region ?_ | refine z_p (kk := ?_) | with_reducible refine W.block ?_ | refine W.exit rfl ?_))
      refine W.loop (fun m ρ w4 => ∃ (c : Nat), m = l.length - c ∧ 1 ≤ c ∧ c ≤ l.length ∧ ρ = [(3, .int .i64 l.length), (4, .slice (some ⟨dr, 0, none⟩) l.length l.length), (8, .int .i64 c)] ∧ w4 = w3 ∧ ∀ x, 1 ≤ x → x < c → bs.getD x false = true)
        ⟨_, _, ⟨1, rfl, Nat.le_refl _, hn1, rfl, rfl, fun x h1 h2 => by omega⟩, (by repeat (first | exact trivial | refine And.intro rfl ?_))⟩ ?_
      rintro m ρ w4 ⟨c, rfl, hc1, hcl, rfl, rfl, hall⟩
      have hbl := hS.len
      (repeat (first | with_reducible refine W.seq ?_ | with_reducible refine Ops.nil ?_ | with_reducible refine W.region ?_ | refine z_p (kk := ?_)))
      (first | refine W.condD rfl (fun hc => ?_) (fun hc => ?_) | refine W.condE rfl (fun hc => ?_) (fun hc => ?_) | refine W.condN rfl (fun hc => ?_) (fun hc => ?_) | refine W.cond rfl (fun hc => ?_) (fun hc => ?_))
      · have hcl2 : c < l.length := by omega
        cases hbc : bs.getD c false with
        | true =>
          (repeat (first | with_reducible refine W.seq ?_ | with_reducible refine Ops.nil ?_ | with_reducible refine W.region ?_ | refine z_p (kk := ?_) | with_reducible refine W.skip ?_ | with_reducible refine W.block ?_ | refine z_J (kk := fun _ => ?_)))
          refine W.condF rfl (by first | rfl | assumption | (simp only [bnf] <;> omega) | (simp only [*, bnf]; done) | fail) ?_
          (repeat (first | with_reducible refine Ops.nil ?_ | with_reducible refine W.region ?_ | refine z_p (kk := ?_) | refine z_a (kk := ?_) | with_reducible refine W.skip ?_ | with_reducible refine W.endb ?_))
          exact W.endl ⟨_, _, ⟨⟨c + 1, rfl, by omega, by omega, rfl, rfl, fun x h1 h2 => by by_cases e : x = c; subst e; exact hbc; exact hall x h1 (by omega)⟩, by omega⟩, (by repeat (first | exact trivial | refine And.intro rfl ?_))⟩
        | false =>
          have hno : (gameOf l).isSome = false := no_game fun hT => by
            obtain ⟨a, b, ha, hb, hk⟩ := hT.cov c hc1 hcl2
            have := (hS.p1 a b (.inl ha) hb).2.2
            rw [hk] at this
            simp only [Int.toNat_natCast] at this
            rw [hbc] at this
            cases this
          (repeat (first | with_reducible refine W.seq ?_ | with_reducible refine Ops.nil ?_ | with_reducible refine W.region ?_ | refine z_p (kk := ?_) | with_reducible refine W.skip ?_ | with_reducible refine W.block ?_ | refine z_J (kk := fun _ => ?_)))
          refine W.condT rfl (by first | rfl | assumption | (simp only [bnf] <;> omega) | (simp only [*, bnf]; done) | fail) ?_
          (repeat (first | with_reducible refine W.seq ?_ | with_reducible refine Ops.nil ?_ | with_reducible refine W.region ?_ | refine z_p (kk := ?_)))
          exact W.fret rfl ⟨by rw [hno]; rfl, hb3⟩
      · have hce : c = l.length := by omega
        subst hce
        have hyes : (gameOf l).isSome = true := tk_game.1 ⟨hn1, hn60, fun a b ha hb => ⟨(hS.p1 a b (.inl ha) hb).1, (hS.p1 a b (.inl ha) hb).2.1⟩, fun a b a' b' ha hb ha' hb' he => hS.p3 a b a' b' (.inl ha) hb (.inl ha') hb' he, fun c h1 h2 => by
          obtain ⟨a, b, h3, h4, h5⟩ := hS.p2 c (hall c h1 h2)
          exact ⟨a, b, by unfold Dn at h3; omega, h4, h5⟩, fun a ha => hS.wo a ha⟩
        (repeat (first | with_reducible refine W.seq ?_ | with_reducible refine Ops.nil ?_ | with_reducible refine W.region ?_ | refine z_p (kk := ?_) | refine W.exit rfl ?_))
        exact W.fret rfl ⟨by rw [hyes]; rfl, hb3⟩
  · have hno : (gameOf l).isSome = false := no_game fun hT => hn ⟨hT.n1, hT.n60⟩
    by_cases h1 : l.length < 1
    · (repeat (first | with_reducible refine W.seq ?_ | with_reducible refine Ops.nil ?_ | with_reducible refine W.region ?_ | refine z_p (kk := ?_) | refine z_n (kk := ?_) | refine z_l (kk := ?_) | refine z_g (kk := ?_)))
      refine W.condT rfl (by first | rfl | assumption | (simp only [bnf] <;> omega) | (simp only [*, bnf]; done) | fail) ?_
      (repeat (first | with_reducible refine W.seq ?_ | with_reducible refine Ops.nil ?_ | with_reducible refine W.region ?_ | refine z_p (kk := ?_)))
      exact W.fret rfl ⟨by rw [hno]; rfl, Below.refl _ _⟩
    · have h2 : l.length > 60 := by omega
      (repeat (first | with_reducible refine W.seq ?_ | with_reducible refine Ops.nil ?_ | with_reducible refine W.region ?_ | refine z_p (kk := ?_) | refine z_y (kk := ?_) | refine z_l (kk := ?_) | refine z_h (kk := ?_)))
      refine W.condT rfl (by first | rfl | assumption | (simp only [bnf] <;> omega) | (simp only [*, bnf]; done) | fail) ?_
      (repeat (first | with_reducible refine W.seq ?_ | with_reducible refine Ops.nil ?_ | with_reducible refine W.region ?_ | refine z_p (kk := ?_)))
      exact W.fret rfl ⟨by rw [hno]; rfl, Below.refl _ _⟩
end Go.Proofs.Ytdiljpnfochndaa
namespace Go.Proofs.Ytdiljpnfochndaa
open Go Go.RowKit Go.Proofs.Ytdiljpnfochndaa.VW
open Go.Proofs.Ytdiljpnfochndaa.HP (Nd kid wor leafB rd evB gameOf gameOf_TF ValP NV far TF Dn k_ RNeedP RN farR TK take_snoc)
attribute [local irreducible] W Ops OrdA VW.Ord OrdX
theorem refValues_c {w : World} {v : Value} {l : List Nd} {dep : List Int} (hTr : TreeM w v l) (hT : TF l dep) :
    Calls Try.prog 23 #[v] w (Ret fun r w' => ∃ vs : List Int, OI 3 (Value.int .i64) w w' r vs ∧ ValP l dep (wor l) vs) := by
  obtain ⟨At, ct, rfl⟩ := hTr.sl
  have hn := hT.n60
  have hn1 := hT.n1
  refine calls_W (vs := [_]) Try.func23 rfl (by kernel_rfl) rfl ?_
  (repeat (first | with_reducible refine W.seq ?_ | with_reducible refine Ops.nil ?_ | with_reducible refine W.region ?_ | refine z_p (kk := ?_) | with_reducible refine W.block ?_))
  refine W.loop (fun m ρ w3 => ∃ (i : Nat) (ov : Value) (ws : List Int), m = l.length - i ∧ i ≤ l.length ∧ ρ = [(0, .slice At l.length ct), (3, ov), (4, .int .i64 i)] ∧ OI 3 (Value.int .i64) w w3 ov ws ∧ ws.length = i ∧ ∀ j : Nat, j < i → ws.getD j 0 = wor l j)
    ⟨_, _, ⟨0, _, _, rfl, Nat.zero_le _, rfl, OI.nil (Below.refl _ _), rfl, fun j h => by omega⟩, (by repeat (first | exact trivial | refine And.intro rfl ?_))⟩ ?_
  rintro m ρ w3 ⟨i, ov, ws, rfl, hi, rfl, hO, hwl, hv⟩
  have hb3 := hO.bel
  (repeat (first | with_reducible refine W.seq ?_ | with_reducible refine Ops.nil ?_ | with_reducible refine W.region ?_ | refine z_p (kk := ?_) | refine z_l (kk := ?_)))
  (first | refine W.condD rfl (fun hc => ?_) (fun hc => ?_) | refine W.condE rfl (fun hc => ?_) (fun hc => ?_) | refine W.condN rfl (fun hc => ?_) (fun hc => ?_) | refine W.cond rfl (fun hc => ?_) (fun hc => ?_))
  · (repeat (first | with_reducible refine W.seq ?_ | with_reducible refine W.region ?_ | refine z_p (kk := ?_) | with_reducible refine W.skip ?_ | with_reducible refine W.block ?_ | refine z_w (kk := fun _ _ => ?_)))
    refine Ops.pushO (enc := Value.int .i64) rfl rfl rfl rfl rfl rfl rfl rfl rfl rfl rfl rfl (fun _ => rfl) rfl hO (by omega) (fun lv' _ w5 hO5 _ _ => ?_)
    (repeat (first | with_reducible refine Ops.nil ?_ | with_reducible refine W.region ?_ | refine z_p (kk := ?_) | refine z_a (kk := ?_) | with_reducible refine W.endb ?_))
    refine W.endl ⟨_, _, ⟨⟨i + 1, _, _, rfl, by omega, rfl, hO5, by simp [hwl], fun j hj => ?_⟩, by omega⟩, (by repeat (first | exact trivial | refine And.intro rfl ?_))⟩
    by_cases e : j = i
    · subst e; rw [app_last hwl.symm]
    · rw [app_getD (by omega)]; exact hv j (by omega)
  · have hil : i = l.length := by omega
    subst hil
    (repeat (first | with_reducible refine W.seq ?_ | with_reducible refine W.region ?_ | refine z_p (kk := ?_) | refine W.exit rfl ?_))
    refine Ops.call rfl rfl rfl rfl rfl (backed_c (hTr.below hb3) hT hO.sl hwl) (fun r w4 hR => ?_)
    obtain ⟨vs, hO4, hvs⟩ := hR
    (repeat (first | with_reducible refine Ops.nil ?_ | refine z_p (kk := ?_)))
    exact W.fret rfl ⟨vs, hO4.up hb3, valP_congr hvs fun j hj _ => hv j hj⟩
end Go.Proofs.Ytdiljpnfochndaa
namespace Go.Proofs.Ytdiljpnfochndaa
open Go Go.RowKit Go.Proofs.Ytdiljpnfochndaa.VW
open Go.Proofs.Ytdiljpnfochndaa.HP (Nd kid wor leafB rd evB sg TF kT subT subO SS KK SS_perm SS_len SS_mem SS_uniq kT_snoc ValP)
attribute [local irreducible] W Ops OrdA VW.Ord OrdX
theorem flat_set2 : ∀ (cs : List Value) (xs : List Nd) (p : Nat) (v : Value) (ks : List Int) (x : Int), cs.length = xs.length → p < xs.length → ((flat cs xs).set (p * 2) v).set (p * 2 + 1) (.int .i64 x) = flat (cs.set p v) (xs.set p (ks, x))
  | [], [], _, _, _, _, _, h => by simp at h
  | a :: cs, y :: xs, 0, v, ks, x, _, _ => by simp [flat]
  | a :: cs, y :: xs, p + 1, v, ks, x, h, hp => by
    have := flat_set2 cs xs p v ks x (by simpa using h) (by simpa using hp)
    rw [show (p + 1) * 2 = p * 2 + 1 + 1 by omega]
    simp only [flat, List.set_cons_succ, this]
  | [], _ :: _, _, _, _, _, h, _ => by simp at h
  | _ :: _, [], _, _, _, _, h, _ => by simp at h
/-- A node with its children put in. -/
theorem TQ.put {B : Nat} {w w' : World} {ov pv : Value} {tr : List Nd} {cvs : List Value} {p : Nat} {ps : List Int} {x : Int} (h : TQ B w ov tr cvs) (hp : p < tr.length) (hP : w.ownsRow 0 3 1 pv ps.length (ps.map (Value.int .i64))) (hge : ∀ k, pv.ownBlock = some k → B ≤ k ∧ ¬ outB ov cvs k)
    (ho' : w'.ownsRow 0 47 2 ov tr.length (((flat cvs tr).set (p * 2) pv).set (p * 2 + 1) (.int .i64 x))) (k : Kp (fun i => ov.ownBlock = some i) w w') : TQ B w' ov (tr.set p (ps, x)) (cvs.set p pv) := by
  have hl := h.len
  refine ⟨h.ge, by simp [hl], ?_, fun j hj => ?_, fun j hj i hi => ?_, fun j j' hj hj' hne i hi => ?_⟩
  · rw [flat_set2 _ _ _ _ ps _ hl hp] at ho'
    rw [List.length_set]
    exact ho'
  · rw [List.length_set] at hj
    by_cases e : p = j
    · subst e
      rw [lgetD_set_eq (by omega), ndD_set_eq hp]
      exact own_kp hP k (fun i hi e => (hge i hi).2 (.inl e))
    · rw [lgetD_set_ne e, ndD_set_ne e]
      exact own_kp (h.own j hj) k (fun i hi e2 => (h.sep j hj i hi).2 e2)
  · rw [List.length_set] at hj
    by_cases e : p = j
    · subst e
      rw [lgetD_set_eq (by omega)] at hi
      exact ⟨(hge i hi).1, fun e2 => (hge i hi).2 (.inl e2)⟩
    · rw [lgetD_set_ne e] at hi
      exact h.sep j hj i hi
  · rw [List.length_set] at hj hj'
    by_cases e : p = j
    · subst e
      rw [lgetD_set_eq (by omega)] at hi
      rw [lgetD_set_ne hne]
      exact fun e3 => (hge i hi).2 (.inr ⟨j', by omega, e3⟩)
    · rw [lgetD_set_ne e] at hi
      by_cases e' : p = j'
      · subst e'
        rw [lgetD_set_eq (by omega)]
        exact fun e3 => (hge i e3).2 (.inr ⟨j, by omega, hi⟩)
      · rw [lgetD_set_ne e']
        exact h.two j j' hj hj' hne i hi
theorem outB_put {ov pv : Value} {cvs : List Value} {p : Nat} (hp : p < cvs.length) : ∀ k, outB ov (cvs.set p pv) k → outB ov cvs k ∨ pv.ownBlock = some k := fun k hk => by
  rcases hk with e | ⟨j, hj, e⟩
  · exact .inl (.inl e)
  · rw [List.length_set] at hj
    by_cases e2 : p = j
    · subst e2
      rw [lgetD_set_eq hj] at e
      exact .inr e
    · rw [lgetD_set_ne e2] at e
      exact .inl (.inr ⟨j, hj, e⟩)
def BelC (w0 : World) (tv vv : Value) (l : List Nd) (dep vs : List Int) (N : Nat) : Prop := ∀ (w : World) (i : Nat) (ov : Value) (tr : List Nd) (cvs : List Value), i < l.length → l.length - i ≤ N → Below w0.heap.size w0 w → TQ w0.heap.size w ov tr cvs → tr.length + (subO (SS l dep vs) N i).length ≤ 60 →
  Calls Try.prog 89 #[tv, vv, .int .i64 i, .bool (evB dep i), ov] w (Ret fun r w' => ∃ cvs', Below w0.heap.size w0 w' ∧ TQ w0.heap.size w' r (tr ++ subT (SS l dep vs) l N i tr.length) cvs' ∧ Kp (fun k => outB ov cvs k) w w' ∧ ∀ k, outB r cvs' k → outB ov cvs k ∨ w.heap.size ≤ k)
set_option maxHeartbeats 8000000 in
theorem below_c {w0 : World} {tv vv : Value} {l : List Nd} {dep vs : List Int} (hT : TreeM w0 tv l) (hV : SlI w0 vv vs) (hTF : TF l dep) (hvl : vs.length = l.length) : ∀ N, BelC w0 tv vv l dep vs N := by
  intro N
  induction N with
  | zero =>
    intro w i ov tr cvs hi hN
    omega
  | succ N ih =>
    intro w i ov tr cvs hi hN hbel hO hlen
    have hn60 := hTF.n60
    have hkl := hTF.klen i hi
    have hkf := Go.Proofs.Ytdiljpnfochndaa.HP.kid_few hTF hi
    have hkin := hTF.kin i
    obtain ⟨A, c, rfl⟩ := hO.treeM.sl
    obtain ⟨At, ct, rfl⟩ := hT.sl
    obtain ⟨Av, cv0, rfl⟩ := Sl.sl hV
    simp only [subO, List.length_cons] at hlen
    refine calls_W (vs := [_, _, _, _, _]) Try.func89 rfl (by kernel_rfl) rfl ?_
    (repeat (first | with_reducible refine W.seq ?_ | with_reducible refine Ops.nil ?_ | with_reducible refine W.region ?_ | refine z_p (kk := ?_) | refine z_l (kk := ?_) | refine z_w (kk := fun _ _ => ?_)))
    refine Ops.evG rfl rfl rfl (EV.bldS rfl rfl rfl rfl rfl) ?_
    refine Ops.push2 rfl rfl rfl rfl rfl rfl rfl rfl rfl rfl rfl (fun _ => rfl) rfl rfl hO.row (by omega) (fun lv' p w1 hrow k1 hn1 => ?_)
    have hO1 := hO.push hbel.size hrow k1 hn1
    have hb01 : Below w0.heap.size w0 w1 := Below.put hbel k1 (fun i hi => hO.ge i hi)
    have ho1 := outB_push (cvs := cvs) hn1
    (repeat (first | with_reducible refine W.seq ?_ | with_reducible refine Ops.nil ?_ | with_reducible refine W.region ?_ | refine z_p (kk := ?_) | with_reducible refine W.block ?_))
    refine W.loop (fun m ρ w2 => ∃ (k : Nat) (cv : Value) (cs : List Int), m = (kid l i).length - k ∧ k ≤ (kid l i).length ∧ ρ = [(0, .slice At l.length ct), (1, .slice Av vs.length cv0), (2, .int .i64 i), (3, .bool (evB dep i)), (4, lv'), (11, .int .i64 tr.length), (12, cv), (13, .slice none 0 0), (14, .int .i64 k)] ∧
      OI 3 (Value.int .i64) w0 w2 cv cs ∧ Below w1.heap.size w1 w2 ∧ (∀ b, cv.ownBlock = some b → w1.heap.size ≤ b) ∧ cs.Perm ((kid l i).take k) ∧ cs.Pairwise fun a b => KK l dep vs i a < KK l dep vs i b)
      ⟨_, _, ⟨0, _, [], rfl, Nat.zero_le _, rfl, OI.nil hb01, Below.refl _ _, fun b hb => by simp [Value.ownBlock] at hb, List.Perm.refl _, List.Pairwise.nil⟩, (by repeat (first | exact trivial | refine And.intro rfl ?_))⟩ ?_
    rintro m ρ w2 ⟨k, cv, cs, rfl, hk, rfl, hC, hb12, hcb, hperm, hpw⟩
    have hb02 := hC.bel
    obtain ⟨Ac, cc, rfl⟩ := hC.sh
    (repeat (first | with_reducible refine W.seq ?_ | with_reducible refine Ops.nil ?_ | with_reducible refine W.region ?_ | refine z_p (kk := ?_) | refine z_l (kk := ?_) | refine z_k (kk := fun _ _ _ _ _ => ?_)))
    (first | refine W.condD rfl (fun hc => ?_) (fun hc => ?_) | refine W.condE rfl (fun hc => ?_) (fun hc => ?_) | refine W.condN rfl (fun hc => ?_) (fun hc => ?_) | refine W.cond rfl (fun hc => ?_) (fun hc => ?_))
    · have hkk : k < (kid l i).length := by omega
      have hkk2 := hkin k hi hkk
      simp only [Go.Proofs.Ytdiljpnfochndaa.HP.k_] at hkk2
      (repeat (first | with_reducible refine W.seq ?_ | with_reducible refine Ops.nil ?_ | with_reducible refine W.region ?_ | refine z_p (kk := ?_) | with_reducible refine W.skip ?_ | with_reducible refine W.block ?_ | refine z_I (kk := fun _ => ?_) | refine z_k (kk := fun _ _ _ _ _ => ?_)))
      have hks := fun {p q : Nat} => Go.Proofs.Ytdiljpnfochndaa.HP.KK_lt (p := p) (q := q) hTF vs hi
      have hlt' : ∀ x : Nat, x < cs.length → ∃ p : Nat, p < k ∧ cs.getD x 0 = (kid l i).getD p 0 := fun x hx => by
        have hm : cs.getD x 0 ∈ (kid l i).take k := hperm.mem_iff.1 (Go.Proofs.Ytdiljpnfochndaa.HP.getD_mem hx)
        obtain ⟨p, hp, e⟩ := List.mem_iff_getElem.1 hm
        rw [List.length_take] at hp
        refine ⟨p, by omega, ?_⟩
        rw [← e, List.getElem_take]
        simp [List.getD_eq_getElem?_getD, show p < (kid l i).length by omega]
      have hcl : cs.length ≤ k := by have := hperm.length_eq; rw [List.length_take] at this; omega
      refine W.loop (fun m ρ w3 => ∃ (j : Nat), m = cs.length - j ∧ j ≤ cs.length ∧ ρ = [(0, .slice At l.length ct), (1, .slice Av vs.length cv0), (2, .int .i64 i), (3, .bool (evB dep i)), (4, lv'), (11, .int .i64 tr.length), (12, .slice Ac cs.length cc), (13, .slice none 0 0), (14, .int .i64 k), (15, .int .i64 ((kid l i).getD k 0)), (16, .int .i64 j)] ∧
        Below w2.heap.size w2 w3 ∧ ∀ x : Nat, x < j → KK l dep vs i (cs.getD x 0) < KK l dep vs i ((kid l i).getD k 0))
        ⟨_, _, ⟨0, rfl, Nat.zero_le _, rfl, Below.refl _ _, fun x hx => by omega⟩, (by repeat (first | exact trivial | refine And.intro rfl ?_))⟩ ?_
      rintro m ρ w3 ⟨j, rfl, hj, rfl, hb23, hlo⟩
      have hC3 := hC.below hb23
      have hb03 := hC3.bel
      have hsl : SlI w3 (.slice Ac cs.length cc) cs := hC3.sl
      by_cases hjl : j < cs.length
      · obtain ⟨p, hp, ep⟩ := hlt' j hjl
        have hpk := hkin p hi (by omega)
        simp only [Go.Proofs.Ytdiljpnfochndaa.HP.k_] at hpk
        rw [← ep] at hpk
        have hcmp := hks hp hkk
        rw [← ep] at hcmp
        have hcont : sg dep i * (rd vs ((kid l i).getD k 0) - rd vs (cs.getD j 0)) ≥ 0 → ∀ x : Nat, x < j + 1 → KK l dep vs i (cs.getD x 0) < KK l dep vs i ((kid l i).getD k 0) := fun h x hx => by
          by_cases e : x = j
          · subst e
            have h1 := hcmp.1
            have h2 := hcmp.2
            omega
          · exact hlo x (by omega)
        have hstop : sg dep i * (rd vs ((kid l i).getD k 0) - rd vs (cs.getD j 0)) < 0 → KK l dep vs i ((kid l i).getD k 0) < KK l dep vs i (cs.getD j 0) := fun h => hcmp.1.1 h
        by_cases heq : vs.getD (cs.getD j 0).toNat 0 = vs.getD ((kid l i).getD k 0).toNat 0
        · (repeat (first | with_reducible refine W.seq ?_))
          refine W.ordA 99 [(0, 1), (1, 1), (2, 1), (3, 1), (4, 1), (5, 1), (6, 1), (7, 1), (8, 1), (9, 2), (10, 1), (11, 2), (12, 1), (13, 1), (14, 1), (15, 2), (16, 1), (17, 1), (18, 1), (19, 1), (20, 1), (21, 1), (22, 2), (23, 1), (24, 2), (25, 1), (26, 1), (27, 1), (28, 2), (29, 1), (30, 1), (31, 1), (32, 1), (33, 1)] rfl (by kernel_rfl) rfl (by kernel_rfl) (fun _ _ _ h => h) ?_
          (repeat (first | refine x_p (kk := ?_) | refine x_n (kk := ?_) | refine x_l (kk := ?_) | refine x_I (kk := fun _ => ?_) | refine x_K (kk := fun _ => ?_) | refine x_t (kk := ?_)))
          refine OrdA.nil (fun w4 hb4 => ?_)
          skip
          refine W.condT rfl (by first | rfl | assumption | (simp only [bnf] <;> omega) | (simp only [*, bnf]; done) | fail) ?_
          (repeat (first | with_reducible refine Ops.nil ?_ | with_reducible refine W.region ?_ | refine z_p (kk := ?_) | refine z_a (kk := ?_) | with_reducible refine W.skip ?_ | with_reducible refine W.endb ?_ | with_reducible refine W.block ?_))
          exact W.endl ⟨_, _, ⟨⟨j + 1, rfl, by omega, rfl, Below.via hb23 hb4, hcont (by simp only [rd]; rw [heq, Int.sub_self, Int.mul_zero]; omega)⟩, by omega⟩, (by repeat (first | exact trivial | refine And.intro rfl ?_))⟩
        · (repeat (first | with_reducible refine W.seq ?_))
          refine W.ordA 99 [(0, 1), (1, 1), (2, 1), (3, 1), (4, 1), (5, 1), (6, 1), (7, 1), (8, 1), (9, 2), (10, 1), (11, 2), (12, 1), (13, 1), (14, 1), (15, 2), (16, 1), (17, 1), (18, 1), (19, 1), (20, 1), (21, 1), (22, 2), (23, 1), (24, 2), (25, 1), (26, 1), (27, 1), (28, 2), (29, 1), (30, 1), (31, 1), (32, 1), (33, 1)] rfl (by kernel_rfl) rfl (by kernel_rfl) (fun _ _ _ h => h) ?_
          (repeat (first | refine x_p (kk := ?_) | refine x_l (kk := ?_) | refine x_e (kk := ?_) | refine x_I (kk := fun _ => ?_) | refine x_K (kk := fun _ => ?_) | refine x_t (kk := ?_) | refine x_f (kk := ?_)))
          refine OrdA.nil (fun w4 hb4 => ?_)
          have hC4 := hC3.below hb4
          skip
          refine W.cond rfl (fun hc2 => ?_) (fun hc2 => ?_)
          · (repeat (first | with_reducible refine Ops.nil ?_ | with_reducible refine W.region ?_ | refine z_p (kk := ?_) | refine z_a (kk := ?_) | with_reducible refine W.skip ?_ | with_reducible refine W.endb ?_ | with_reducible refine W.block ?_))
            exact W.endl ⟨_, _, ⟨⟨j + 1, rfl, by omega, rfl, Below.via hb23 hb4, hcont (by
              simp only [rd, sg]
              generalize vs.getD (cs.getD j 0).toNat 0 = v1 at *
              generalize vs.getD ((kid l i).getD k 0).toNat 0 = v2 at *
              cases he : evB dep i <;> rw [he] at hc2 <;> simp at hc2 ⊢ <;> omega)⟩, by omega⟩, (by repeat (first | exact trivial | refine And.intro rfl ?_))⟩
          · have hst := hstop (by
              simp only [rd, sg]
              generalize vs.getD (cs.getD j 0).toNat 0 = v1 at *
              generalize vs.getD ((kid l i).getD k 0).toNat 0 = v2 at *
              cases he : evB dep i <;> rw [he] at hc2 <;> simp at hc2 ⊢ <;> omega)
            have hcap := own_cap hC4.own
            (repeat (first | with_reducible refine W.seq ?_ | with_reducible refine Ops.nil ?_ | with_reducible refine W.region ?_ | refine z_p (kk := ?_) | refine W.exit rfl ?_))
            refine Ops.slH rfl rfl rfl rfl rfl rfl rfl (by omega) (by omega) ?_
            rw [Int.toNat_natCast]
            refine Ops.appO (enc := Value.int .i64) 0 rfl rfl rfl rfl rfl rfl rfl rfl rfl rfl (OI.nil hC4.bel) (sl_take hC4.sl j hj) (Below.refl _ _) (fun _ => rfl) (by simp only [List.length_take, List.length_nil]; omega) (fun v5 w5 hO5 k5 hn5 => ?_)
            have hb45 : Below w4.heap.size w4 w5 := Below.put (Below.refl _ _) k5 (fun i hi => by simp [Value.ownBlock] at hi)
            rw [List.nil_append] at hO5
            (repeat (first | with_reducible refine W.seq ?_ | with_reducible refine Ops.nil ?_ | with_reducible refine W.region ?_ | refine z_p (kk := ?_)))
            refine Ops.pushO (enc := Value.int .i64) rfl rfl rfl rfl rfl rfl rfl rfl rfl rfl rfl rfl (fun _ => rfl) rfl hO5 (by simp only [List.length_take]; omega) (fun v6 _ w6 hO6 k6 hn6 => ?_)
            have hs5 := hb45.size
            have hn5' : ∀ b, v5.ownBlock = some b → w4.heap.size ≤ b := fun b hb => by
              rcases hn5 b hb with h | h
              · simp [Value.ownBlock] at h
              · exact h
            have hb46 : Below w4.heap.size w4 w6 := Below.put hb45 k6 (fun i hi => hn5' i hi)
            have hC6 := hC4.below hb46
            have hs6 := hb46.size
            have hn6' : ∀ b, v6.ownBlock = some b → w4.heap.size ≤ b := fun b hb => by
              rcases hn6 b hb with h | h
              · exact hn5' b h
              · omega
            (repeat (first | with_reducible refine Ops.nil ?_ | with_reducible refine W.region ?_ | refine z_p (kk := ?_)))
            refine Ops.slL rfl rfl rfl rfl rfl rfl rfl (by omega) (by omega) hcap (fun A' c' hA' => ?_)
            rw [Int.toNat_natCast] at hA' ⊢
            refine Ops.appO (enc := Value.int .i64) 0 rfl rfl rfl rfl rfl rfl rfl rfl rfl rfl hO6 (sl_drop (c' := c') hC6.sl hA') (Below.refl _ _) (fun _ => rfl) (by simp only [List.length_append, List.length_take, List.length_drop, List.length_cons, List.length_nil]; omega) (fun v7 w7 hO7 k7 hn7 => ?_)
            have hb47 : Below w4.heap.size w4 w7 := Below.put hb46 k7 (fun i hi => hn6' i hi)
            have hb24 : Below w2.heap.size w2 w4 := Below.via hb23 hb4
            have hs24 := hb24.size
            have hs12 := hb12.size
            (repeat (first | with_reducible refine Ops.nil ?_ | with_reducible refine W.region ?_ | refine z_p (kk := ?_) | refine z_a (kk := ?_) | with_reducible refine W.endb ?_))
            refine W.endl ⟨_, _, ⟨⟨k + 1, _, _, rfl, by omega, rfl, hO7, Below.via hb12 (Below.via hb24 hb47), fun b hb => ?_, ?_, Go.Proofs.Ytdiljpnfochndaa.HP.ins_pw hpw hj hlo (.inr hst)⟩, by omega⟩, (by repeat (first | exact trivial | refine And.intro rfl ?_))⟩
            · rcases hn7 b hb with h | h
              · have := hn6' b h; omega
              · omega
            · rw [Go.Proofs.Ytdiljpnfochndaa.HP.take_snoc _ _ hkk]
              exact Go.Proofs.Ytdiljpnfochndaa.HP.ins_perm.trans (hperm.append_right _)
      · have hjl' : j = cs.length := by omega
        (repeat (first | with_reducible refine W.seq ?_))
        refine W.ordA 99 [(0, 1), (1, 1), (2, 1), (3, 1), (4, 1), (5, 1), (6, 1), (7, 1), (8, 1), (9, 2), (10, 1), (11, 2), (12, 1), (13, 1), (14, 1), (15, 2), (16, 1), (17, 1), (18, 1), (19, 1), (20, 1), (21, 1), (22, 2), (23, 1), (24, 2), (25, 1), (26, 1), (27, 1), (28, 2), (29, 1), (30, 1), (31, 1), (32, 1), (33, 1)] rfl (by kernel_rfl) rfl (by kernel_rfl) (fun _ _ _ h => h) ?_
        (repeat (first | refine x_p (kk := ?_) | refine x_n (kk := ?_) | refine x_l (kk := ?_) | refine x_f (kk := ?_)))
        refine OrdA.nil (fun w4 hb4 => ?_)
        have hC4 := hC3.below hb4
        skip
        refine W.condF rfl (by first | rfl | assumption | (simp only [bnf] <;> omega) | (simp only [*, bnf]; done) | fail) ?_
        have hcap := own_cap hC4.own
        (repeat (first | with_reducible refine W.seq ?_ | with_reducible refine Ops.nil ?_ | with_reducible refine W.region ?_ | refine z_p (kk := ?_) | refine W.exit rfl ?_))
        refine Ops.slH rfl rfl rfl rfl rfl rfl rfl (by omega) (by omega) ?_
        rw [Int.toNat_natCast]
        refine Ops.appO (enc := Value.int .i64) 0 rfl rfl rfl rfl rfl rfl rfl rfl rfl rfl (OI.nil hC4.bel) (sl_take hC4.sl j hj) (Below.refl _ _) (fun _ => rfl) (by simp only [List.length_take, List.length_nil]; omega) (fun v5 w5 hO5 k5 hn5 => ?_)
        have hb45 : Below w4.heap.size w4 w5 := Below.put (Below.refl _ _) k5 (fun i hi => by simp [Value.ownBlock] at hi)
        rw [List.nil_append] at hO5
        (repeat (first | with_reducible refine W.seq ?_ | with_reducible refine Ops.nil ?_ | with_reducible refine W.region ?_ | refine z_p (kk := ?_)))
        refine Ops.pushO (enc := Value.int .i64) rfl rfl rfl rfl rfl rfl rfl rfl rfl rfl rfl rfl (fun _ => rfl) rfl hO5 (by simp only [List.length_take]; omega) (fun v6 _ w6 hO6 k6 hn6 => ?_)
        have hs5 := hb45.size
        have hn5' : ∀ b, v5.ownBlock = some b → w4.heap.size ≤ b := fun b hb => by
          rcases hn5 b hb with h | h
          · simp [Value.ownBlock] at h
          · exact h
        have hb46 : Below w4.heap.size w4 w6 := Below.put hb45 k6 (fun i hi => hn5' i hi)
        have hC6 := hC4.below hb46
        have hs6 := hb46.size
        have hn6' : ∀ b, v6.ownBlock = some b → w4.heap.size ≤ b := fun b hb => by
          rcases hn6 b hb with h | h
          · exact hn5' b h
          · omega
        (repeat (first | with_reducible refine Ops.nil ?_ | with_reducible refine W.region ?_ | refine z_p (kk := ?_)))
        refine Ops.slL rfl rfl rfl rfl rfl rfl rfl (by omega) (by omega) hcap (fun A' c' hA' => ?_)
        rw [Int.toNat_natCast] at hA' ⊢
        refine Ops.appO (enc := Value.int .i64) 0 rfl rfl rfl rfl rfl rfl rfl rfl rfl rfl hO6 (sl_drop (c' := c') hC6.sl hA') (Below.refl _ _) (fun _ => rfl) (by simp only [List.length_append, List.length_take, List.length_drop, List.length_cons, List.length_nil]; omega) (fun v7 w7 hO7 k7 hn7 => ?_)
        have hb47 : Below w4.heap.size w4 w7 := Below.put hb46 k7 (fun i hi => hn6' i hi)
        have hb24 : Below w2.heap.size w2 w4 := Below.via hb23 hb4
        have hs24 := hb24.size
        have hs12 := hb12.size
        (repeat (first | with_reducible refine Ops.nil ?_ | with_reducible refine W.region ?_ | refine z_p (kk := ?_) | refine z_a (kk := ?_) | with_reducible refine W.endb ?_))
        refine W.endl ⟨_, _, ⟨⟨k + 1, _, _, rfl, by omega, rfl, hO7, Below.via hb12 (Below.via hb24 hb47), fun b hb => ?_, ?_, Go.Proofs.Ytdiljpnfochndaa.HP.ins_pw hpw hj hlo (.inl hjl')⟩, by omega⟩, (by repeat (first | exact trivial | refine And.intro rfl ?_))⟩
        · rcases hn7 b hb with h | h
          · have := hn6' b h; omega
          · omega
        · rw [Go.Proofs.Ytdiljpnfochndaa.HP.take_snoc _ _ hkk]
          exact Go.Proofs.Ytdiljpnfochndaa.HP.ins_perm.trans (hperm.append_right _)
    · have hkk : k = (kid l i).length := by omega
      subst hkk
      rw [List.take_length] at hperm
      have hcs : cs = SS l dep vs i := SS_uniq hTF vs hi hperm hpw
      subst hcs
      have hO2 := hO1.below hb12
      have hv2 : SlI w2 (.slice Ac (SS l dep vs i).length cc) (SS l dep vs i) := hC.sl
      have hvb : ∀ b, (Value.slice Ac (SS l dep vs i).length cc).ownBlock = some b → w1.heap.size ≤ b ∧ b < w2.heap.size := fun b hb => ⟨hcb b hb, (hC.own.lt b hb).2⟩
      have hk02 : Kp (fun k => outB (.slice A tr.length c) cvs k) w w2 := (k1.trans (Kp.of_below (S := fun _ => False) hb12)).mono (fun k _ e => by rcases e with e | e; exact .inl e; exact e.elim)
      have ho2 : ∀ k, outB lv' (cvs ++ [.slice none 0 0]) k → k < w1.heap.size := fun k hk => (hO1.lt hk).2
      have hs12 := hb12.size
      have hsl := SS_len l dep vs i
      clear hC hcb
      (repeat (first | with_reducible refine W.seq ?_ | with_reducible refine Ops.nil ?_ | with_reducible refine W.region ?_ | refine z_p (kk := ?_) | with_reducible refine W.block ?_ | refine W.exit rfl ?_))
      refine W.loop (fun m ρ w3 => ∃ (j : Nat) (ov pv : Value) (cvs' : List Value), m = (kid l i).length - j ∧ j ≤ (kid l i).length ∧ ρ = [(0, .slice At l.length ct), (1, .slice Av vs.length cv0), (2, .int .i64 i), (3, .bool (evB dep i)), (4, ov), (11, .int .i64 tr.length), (12, .slice Ac (SS l dep vs i).length cc), (13, pv), (18, .int .i64 j)] ∧
        Below w0.heap.size w0 w3 ∧ TQ w0.heap.size w3 ov (tr ++ ([], wor l i) :: (kT (subT (SS l dep vs) l N) tr.length ((SS l dep vs i).take j)).2) cvs' ∧ OI 3 (Value.int .i64) w0 w3 pv (kT (subT (SS l dep vs) l N) tr.length ((SS l dep vs i).take j)).1 ∧ SlI w3 (.slice Ac (SS l dep vs i).length cc) (SS l dep vs i) ∧
        (∀ b, pv.ownBlock = some b → w2.heap.size ≤ b ∧ ¬ outB ov cvs' b) ∧ Kp (fun k => outB (.slice A tr.length c) cvs k) w w3 ∧ (∀ k, outB ov cvs' k → outB (.slice A tr.length c) cvs k ∨ w.heap.size ≤ k) ∧ (∀ k, outB ov cvs' k → k < w1.heap.size ∨ w2.heap.size ≤ k) ∧ w2.heap.size ≤ w3.heap.size)
        ⟨_, _, ⟨0, _, _, _, rfl, Nat.zero_le _, rfl, hb02, hO2, OI.nil hb02, hv2, fun b hb => by simp [Value.ownBlock] at hb, hk02, ho1, fun k hk => .inl (ho2 k hk), Nat.le_refl _⟩, (by repeat (first | exact trivial | refine And.intro rfl ?_))⟩ ?_
      clear hO2 hO1 hv2 hk02 ho1 ho2 hO
      rintro m ρ w3 ⟨j, ov, pv, cvs', rfl, hj, rfl, hb03, hQ3, hP3, hv3, hpb3, hk3, hn3, hn3', hs23⟩
      obtain ⟨Ao, co, rfl⟩ := hQ3.sh
      (repeat (first | with_reducible refine W.seq ?_ | with_reducible refine Ops.nil ?_ | with_reducible refine W.region ?_ | refine z_p (kk := ?_) | refine z_l (kk := ?_)))
      (first | refine W.condD rfl (fun hc => ?_) (fun hc => ?_) | refine W.condE rfl (fun hc => ?_) (fun hc => ?_) | refine W.condN rfl (fun hc => ?_) (fun hc => ?_) | refine W.cond rfl (fun hc => ?_) (fun hc => ?_))
      · have hjl : j < (SS l dep vs i).length := by omega
        have hmem := SS_mem hTF vs hi hjl
        have hevk : evB dep ((SS l dep vs i).getD j 0) = !evB dep i := by
          obtain ⟨p, hp, e⟩ := Go.Proofs.Ytdiljpnfochndaa.HP.kid_at ((SS_perm l dep vs i).mem_iff.1 (Go.Proofs.Ytdiljpnfochndaa.HP.getD_mem hjl))
          rw [← e]; exact evB_kid hTF hi hp
        obtain ⟨m, hm⟩ := Int.eq_ofNat_of_zero_le (show 0 ≤ (SS l dep vs i).getD j 0 by omega)
        have hfs := flat_split (f := subO (SS l dep vs) N) (SS l dep vs i) j hjl
        have hl2 := Go.Proofs.Ytdiljpnfochndaa.HP.kT_len2 (SS l dep vs) l N tr.length ((SS l dep vs i).take j)
        have hl1 := Go.Proofs.Ytdiljpnfochndaa.HP.kT_len1 (subT (SS l dep vs) l N) tr.length ((SS l dep vs i).take j)
        rw [List.length_take] at hl1
        have hsn := kT_snoc (subT (SS l dep vs) l N) tr.length ((SS l dep vs i).take j) ((SS l dep vs i).getD j 0)
        rw [← Go.Proofs.Ytdiljpnfochndaa.HP.take_snoc _ _ hjl] at hsn
        rw [hm] at hfs hmem hsn hevk
        generalize hP : kT (subT (SS l dep vs) l N) tr.length ((SS l dep vs i).take j) = P at *
        (repeat (first | with_reducible refine W.seq ?_ | with_reducible refine W.region ?_ | refine z_p (kk := ?_) | with_reducible refine W.skip ?_ | with_reducible refine W.block ?_ | refine z_l (kk := ?_)))
        have hlen3 : (tr ++ ([], wor l i) :: P.2).length = tr.length + 1 + P.2.length := by simp only [List.length_append, List.length_cons]; omega
        rw [hlen3]
        refine Ops.pushO (enc := Value.int .i64) rfl rfl rfl rfl rfl rfl rfl rfl rfl rfl rfl rfl (fun _ => rfl) rfl hP3 (by omega) (fun pv4 _ w4 hP4 k4 hn4 => ?_)
        have hQ4 := hQ3.kp k4 (fun k hk e => (hpb3 k e).2 hk)
        have hb04 := hP4.bel
        have hs34 := k4.size
        have hv4 : SlI w4 (.slice Ac (SS l dep vs i).length cc) (SS l dep vs i) := hv3.kp k4 (fun b hb e => by have := hvb b hb; have := (hpb3 b e).1; omega)
        have hpb4 : ∀ b, pv4.ownBlock = some b → w2.heap.size ≤ b ∧ ¬ outB (.slice Ao (tr ++ ([], wor l i) :: P.2).length co) cvs' b := fun b hb => by
          rcases hn4 b hb with h | h
          · exact hpb3 b h
          · exact ⟨by omega, fun e => by have := (hQ3.lt e).2; omega⟩
        have hcl := ih w4 m _ _ cvs' (by omega) (by omega) hb04 hQ4 (by rw [hlen3]; omega)
        rw [hlen3, hevk] at hcl
        (repeat (first | with_reducible refine Ops.nil ?_ | with_reducible refine W.region ?_ | refine z_p (kk := ?_) | refine z_I (kk := fun _ => ?_)))
        simp only [hm]
        simp only [hlen3] at hn3 hn3' hpb3 hpb4 hQ4 ⊢
        refine Ops.call rfl rfl rfl rfl rfl hcl (fun r w5 hR => ?_)
        obtain ⟨cvs5, hb05, hQ5, k5, hn5⟩ := hR
        rw [List.append_assoc, List.cons_append] at hQ5
        have hs45 := k5.size
        have hs3 := hk3.size
        have hpb4' := hpb4
        have hv5 : SlI w5 (.slice Ac (SS l dep vs i).length cc) (SS l dep vs i) := hv4.kp k5 (fun b hb e => by
          have := hvb b hb
          rcases hn3' b e with h | h <;> omega)
        have hP5 := hP4.kp k5 (fun b hb => ⟨(hQ4.lt hb).1, fun e => (hpb4 b e).2 hb⟩)
        have hpb5 : ∀ b, pv4.ownBlock = some b → w2.heap.size ≤ b ∧ ¬ outB r cvs5 b := fun b hb => ⟨(hpb4 b hb).1, fun e => by
          rcases hn5 b e with h | h
          · exact (hpb4 b hb).2 h
          · have := (hP4.own.lt b hb).2; omega⟩
        (repeat (first | with_reducible refine Ops.nil ?_ | with_reducible refine W.region ?_ | refine z_p (kk := ?_) | refine z_a (kk := ?_) | with_reducible refine W.endb ?_))
        refine W.endl ⟨_, _, ⟨⟨j + 1, r, pv4, cvs5, rfl, by omega, rfl, hb05, by rw [hsn]; exact hQ5, by rw [hsn]; exact hP5, hv5, hpb5, ?_, ?_, ?_, by omega⟩, by omega⟩, (by repeat (first | exact trivial | refine And.intro rfl ?_))⟩
        · refine ((hk3.trans k4).trans k5).mono (fun b hb e => ?_)
          rcases e with (e | e) | e
          · exact e
          · have := (hpb3 b e).1; have := k1.size; omega
          · rcases hn3 b e with h | h
            · exact h
            · omega
        · intro b hb
          rcases hn5 b hb with h | h
          · exact hn3 b h
          · exact .inr (by omega)
        · intro b hb
          rcases hn5 b hb with h | h
          · exact hn3' b h
          · exact .inr (by omega)
      · have hjl : j = (SS l dep vs i).length := by omega
        subst hjl
        simp only [List.take_length] at hQ3 hP3 hpb3 hn3 hn3' ⊢
        obtain ⟨Ap, cp, rfl⟩ := hP3.sh
        have hplen : tr.length < (tr ++ ([], wor l i) :: (kT (subT (SS l dep vs) l N) tr.length (SS l dep vs i)).2).length := by simp only [List.length_append, List.length_cons]; omega
        have hset := app_set (tr := tr) (r := (kT (subT (SS l dep vs) l N) tr.length (SS l dep vs i)).2) (a := ([], wor l i)) (b := ((kT (subT (SS l dep vs) l N) tr.length (SS l dep vs i)).1, wor l i))
        have hput := fun {w'} => hQ3.put (w' := w') (x := wor l i) hplen hP3.own (fun k hk => ⟨hP3.ge k hk, (hpb3 k hk).2⟩)
        have hoput := outB_put (ov := .slice Ao (tr ++ ([], wor l i) :: (kT (subT (SS l dep vs) l N) tr.length (SS l dep vs i)).2).length co) (pv := .slice Ap (kT (subT (SS l dep vs) l N) tr.length (SS l dep vs i)).1.length cp) (cvs := cvs') (p := tr.length) (by rw [hQ3.len]; exact hplen)
        (repeat (first | with_reducible refine W.seq ?_ | with_reducible refine W.region ?_ | refine z_p (kk := ?_) | refine W.exit rfl ?_ | refine z_w (kk := fun _ _ => ?_)))
        refine Ops.bldG (cs := #[.slice Ap (kT (subT (SS l dep vs) l N) tr.length (SS l dep vs i)).1.length cp, .int .i64 (wor l i)]) rfl rfl rfl rfl rfl rfl (by kernel_rfl) ?_
        refine Ops.wrOA rfl rfl rfl rfl rfl rfl rfl rfl rfl rfl rfl rfl (by simp) rfl rfl hQ3.row (by omega) (by omega) (fun w4 _ hrow4 k4 => ?_)
        rw [Int.toNat_natCast] at hrow4
        have hQ4 := hput hrow4 k4
        rw [hset] at hQ4
        have hs3 := hk3.size
        (repeat (first | with_reducible refine W.seq ?_ | with_reducible refine Ops.nil ?_ | with_reducible refine W.region ?_ | refine z_p (kk := ?_)))
        refine W.fret rfl ⟨_, Below.put hb03 k4 (fun b hb => hQ3.ge b hb), hQ4, (hk3.trans k4).mono (fun b hb e => ?_), fun b hb => ?_⟩
        · rcases e with e | e
          · exact e
          · rcases hn3 b (.inl e) with h | h
            · exact h
            · omega
        · rcases hoput b hb with h | h
          · exact hn3 b h
          · have := (hpb3 b h).1
            have := hbel.size
            have := k1.size
            exact .inr (by omega)
set_option maxHeartbeats 1000000 in
theorem refSorted_c {w : World} {v : Value} {l : List Nd} {dep : List Int} (hTr : TreeM w v l) (hT : TF l dep) :
    Calls Try.prog 53 #[v] w (Ret fun r w' => ∃ vs cvs, Below w.heap.size w w' ∧ ValP l dep (wor l) vs ∧ TQ w.heap.size w' r (sortM l dep vs) cvs) := by
  obtain ⟨At, ct, rfl⟩ := hTr.sl
  have hn1 := hT.n1
  have hn60 := hT.n60
  refine calls_W (vs := [_]) Try.func53 rfl (by kernel_rfl) rfl ?_
  (repeat (first | with_reducible refine W.seq ?_ | with_reducible refine Ops.nil ?_ | with_reducible refine W.region ?_ | refine z_p (kk := ?_)))
  refine Ops.call rfl rfl rfl rfl rfl (refValues_c hTr hT) (fun r w1 hR => ?_)
  obtain ⟨vs, hI, hvs⟩ := hR
  have hb1 := hI.bel
  have hlen := Go.Proofs.Ytdiljpnfochndaa.HP.subO_len (Go.Proofs.Ytdiljpnfochndaa.HP.SS_ord l dep vs) hT l.length 0 (by omega)
  have he0 : evB dep (0 : Nat) = true := by
    have := hT.dbd 0
    unfold evB
    rw [show rd dep ((0 : Nat) : Int) = 0 by show dep.getD 0 0 = 0; omega]
    rfl
  have hcl := below_c (hTr.below hb1) hI.sl hT hvs.len l.length w1 0 (.slice none 0 0) [] [] (by omega) (by omega) (Below.refl _ _) (TQ.nil _ _) (by simp only [List.length_nil]; omega)
  rw [he0] at hcl
  refine Ops.call rfl rfl rfl rfl rfl hcl (fun r2 w2 hR => ?_)
  obtain ⟨cvs, hb2, hQ, _, _⟩ := hR
  rw [List.nil_append] at hQ
  have hs1 := hb1.size
  (repeat (first | with_reducible refine Ops.nil ?_ | refine z_p (kk := ?_)))
  exact W.fret rfl ⟨vs, cvs, Below.via hb1 hb2, hvs, ⟨fun k hk => by have := hQ.ge k hk; omega, hQ.len, hQ.row, hQ.own, fun j hj k hk => by have := hQ.sep j hj k hk; exact ⟨by omega, this.2⟩, hQ.two⟩⟩
end Go.Proofs.Ytdiljpnfochndaa
