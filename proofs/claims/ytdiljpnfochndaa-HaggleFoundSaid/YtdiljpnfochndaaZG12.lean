/- A part of the walk: what this seat's statements share. -/
import Derived.Test.YtdiljpnfochndaaZG11
import Derived.Test.YtdiljpnfochndaaZG4
import Derived.Test.YtdiljpnfochndaaZG7
import Derived.Test.YtdiljpnfochndaaZG8
import Derived.Test.YtdiljpnfochndaaZG3
import Derived.Test.YtdiljpnfochndaaZG2
set_option linter.unusedVariables false
set_option linter.unusedSimpArgs false
set_option linter.unusedSectionVars false
namespace Go.Proofs.Ytdiljpnfochndaa
open Go Go.RowKit Go.Proofs.Ytdiljpnfochndaa.VW
open Go.Proofs.Ytdiljpnfochndaa.HP (Nd kid wor leafB rd evB sg TF kT subT subO SS KK SS_perm SS_len SS_mem SS_uniq kT_snoc SortK SegP)
attribute [local irreducible] W Ops OrdA VW.Ord OrdX
theorem TQ.sh {B : Nat} {w : World} {ov : Value} {tr : List Nd} {cvs : List Value} (h : TQ B w ov tr cvs) : ∃ A c, ov = .slice A tr.length c := h.treeM.sl
theorem Below.kpB {B : Nat} {w w' : World} (h : Below B w w') : Kp (fun i => B ≤ i) w w' := ⟨h.os, h.tape, h.output, h.size, fun i hi hn => h.block i (by omega)⟩
theorem app_set {tr r : List Nd} {a b : Nd} : (tr ++ a :: r).set tr.length b = tr ++ b :: r := by simp
theorem app_kid {tr r : List Nd} {a : Nd} : kid (tr ++ a :: r) tr.length = a.1 := by simp [Go.Proofs.Ytdiljpnfochndaa.HP.kid, List.getD_eq_getElem?_getD]
theorem app_wor {tr r : List Nd} {a : Nd} : wor (tr ++ a :: r) tr.length = a.2 := by simp [Go.Proofs.Ytdiljpnfochndaa.HP.wor, List.getD_eq_getElem?_getD]
theorem flat_split {f : Int → List Int} : ∀ (xs : List Int) (j : Nat), j < xs.length → ((xs.take j).flatMap f).length + (f (xs.getD j 0)).length ≤ (xs.flatMap f).length
  | [], j, h => by simp at h
  | a :: r, 0, _ => by simp
  | a :: r, j + 1, h => by
    have := flat_split (f := f) r j (by simpa using h)
    simp only [List.take_succ_cons, List.flatMap_cons, List.length_append, List.getD_cons_succ]
    omega
theorem own_sl' {w : World} {v : Value} {xs : List Value} {n e sz : Nat} (h : w.ownsRow 0 e sz v n xs) : ∃ A c, v = .slice A n c := by
  rcases h.2 with ⟨rfl, h0⟩ | ⟨g, cap, cur, rfl, _⟩
  · exact ⟨none, 0, by rw [h0]⟩
  · exact ⟨_, _, rfl⟩
/-- What the visits find. -/
structure VisB (w0 wB : World) (b1 b6 b7 b8 b9 g : Nat) (tv vv : Value) (l : List Nd) (dep vs : List Int) : Prop where
  B1 : Blk w0 b1 #[tv] 22
  B6 : Blk w0 b6 #[.func (.func 85) #[.pointer (some ⟨g, 0, none⟩)] #[]] 95
  B7 : Blk w0 b7 #[vv] 24
  G : Game w0 g l dep
  T : TreeM w0 tv l
  V : SlI w0 vv vs
  h8 : w0.heap.size ≤ b8 ∧ b8 < wB.heap.size
  h9 : w0.heap.size ≤ b9 ∧ b9 < wB.heap.size
  h89 : b8 ≠ b9
/-- How it stands at a visit. -/
structure VisI (w0 wB w : World) (b1 b6 b7 b8 b9 : Nat) (ov : Value) (tr : List Nd) (cvs : List Value) : Prop where
  bel : Below w0.heap.size w0 w
  B9 : Blk w b9 #[.func (.func 86) #[] #[.pointer (some ⟨b8, 0, none⟩), .pointer (some ⟨b1, 0, none⟩), .pointer (some ⟨b6, 0, none⟩), .pointer (some ⟨b7, 0, none⟩), .pointer (some ⟨b9, 0, none⟩)]] 74
  B8 : Blk w b8 #[ov] 22
  Q : TQ wB.heap.size w ov tr cvs
  hB : wB.heap.size ≤ w.heap.size
def VisC (w0 wB : World) (b1 b6 b7 b8 b9 : Nat) (l : List Nd) (dep vs : List Int) (N : Nat) : Prop := ∀ (w : World) (i : Nat) (ov : Value) (tr : List Nd) (cvs : List Value), i < l.length → l.length - i ≤ N → VisI w0 wB w b1 b6 b7 b8 b9 ov tr cvs → tr.length + (subO (SS l dep vs) N i).length ≤ 60 →
  Calls Try.prog 86 #[.int .i64 i, .pointer (some ⟨b8, 0, none⟩), .pointer (some ⟨b1, 0, none⟩), .pointer (some ⟨b6, 0, none⟩), .pointer (some ⟨b7, 0, none⟩), .pointer (some ⟨b9, 0, none⟩)] w (Ret fun r w' => ∃ ov' cvs', r = .int .i64 tr.length ∧ VisI w0 wB w' b1 b6 b7 b8 b9 ov' (tr ++ subT (SS l dep vs) l N i tr.length) cvs' ∧
    Kp (fun k => k = b8 ∨ outB ov cvs k) w w' ∧ ∀ k, outB ov' cvs' k → outB ov cvs k ∨ w.heap.size ≤ k)
set_option maxHeartbeats 8000000 in
theorem visit_c {w0 wB : World} {b1 b6 b7 b8 b9 g : Nat} {tv vv : Value} {l : List Nd} {dep vs : List Int} (hV : VisB w0 wB b1 b6 b7 b8 b9 g tv vv l dep vs) (hTF : TF l dep) (hvl : vs.length = l.length) (hvs : ∀ j : Nat, -1099511627776 ≤ vs.getD j 0 ∧ vs.getD j 0 ≤ 1099511627776) : ∀ N, VisC w0 wB b1 b6 b7 b8 b9 l dep vs N := by
  intro N
  induction N with
  | zero =>
    intro w i ov tr cvs hi hN
    omega
  | succ N ih =>
    intro w i ov tr cvs hi hN hI hlen
    obtain ⟨hB1, hB6, hB7, hG, hT, hV', h8, h9, h89⟩ := hV
    have hQ := hI.Q
    have hB8 := hI.B8
    have hbel := hI.bel
    have hB := hI.hB
    have hn60 := hTF.n60
    have hdl := hTF.len
    have hwo := hTF.wor i hi
    have hkl := hTF.klen i hi
    have hkf := Go.Proofs.Ytdiljpnfochndaa.HP.kid_few hTF hi
    obtain ⟨A, c, rfl⟩ := hQ.sh
    obtain ⟨At, ct, rfl⟩ := hT.sl
    have hB1w : Blk w b1 #[.slice At l.length ct] 22 := hB1.kp (Kp.of_below (S := fun _ => False) hbel) (fun e => e)
    simp only [subO, List.length_cons] at hlen
    refine calls_W (vs := [_, _, _, _, _, _]) Try.func86 rfl (by kernel_rfl) rfl ?_
    (repeat (first | with_reducible refine W.seq ?_ | with_reducible refine Ops.nil ?_ | with_reducible refine W.region ?_ | refine z_p (kk := ?_) | refine z_a (kk := ?_) | refine z_y (kk := ?_) | refine z_n (kk := ?_) | refine z_u (kk := ?_) | with_reducible refine W.skip ?_ | with_reducible refine W.endb ?_ | with_reducible refine W.block ?_ | refine W.exit rfl ?_ | refine z_l (kk := ?_) | refine z_f (kk := ?_) | refine z_M (kk := ?_) | refine z_m (kk := ?_) | refine z_e (kk := ?_) | refine z_E (kk := ?_) | refine z_d (kk := ?_) | refine z_I (kk := fun _ => ?_) | refine z_J (kk := fun _ => ?_) | refine z_K (kk := fun _ => ?_) | refine z_L (kk := fun _ => ?_) | refine z_T (kk := ?_) | refine z_F (kk := ?_) | refine z_k (kk := fun _ _ _ _ _ => ?_) | refine z_w (kk := fun _ _ => ?_) | refine z_s (kk := fun _ _ _ _ => ?_) | refine z_D (kk := ?_) | refine z_g (kk := ?_) | refine z_h (kk := ?_)))
    have h0B : w0.heap.size ≤ wB.heap.size := by omega
    have hF0 : ∀ w1, Below wB.heap.size w w1 → Below w0.heap.size w0 w1 := fun w1 h => hbel.trans (h.mono h0B)
    have hF1 : ∀ w1, Below wB.heap.size w w1 → Blk w1 b1 #[.slice At l.length ct] 22 := fun w1 h => hB1.kp (Kp.of_below (S := fun _ => False) (hF0 w1 h)) (fun e => e)
    have hF8 : ∀ w1, Below wB.heap.size w w1 → Blk w1 b8 #[.slice A tr.length c] 22 := fun w1 h => hB8.kp (Below.kpB h) (by omega)
    refine W.ord 9 (fun w' => Below wB.heap.size w w') [(0, 2), (1, 2), (2, 1), (3, 1), (4, 1), (5, 2), (6, 1), (7, 0), (8, 0), (9, 0)] rfl (by kernel_rfl) rfl (by kernel_rfl) (fun w1 k1 _ => ⟨k1.below hB (fun _ _ e => e), ?_⟩)
    have hb1 : Below wB.heap.size w w1 := k1.below hB (fun _ _ e => e)
    have hQ1 := hQ.kp k1 (fun _ _ e => e)
    refine VW.Ord.read' rfl rfl rfl rfl (fun _ _ _ h => h) (fun w1 h => EV.ld rfl rfl rfl ((hF8 w1 h).cell (v := .slice A tr.length c) rfl)) ?_
    refine VW.Ord.read' rfl rfl rfl rfl (fun _ _ _ h => h) (fun w1 h => EV.ld rfl rfl rfl ((hF1 w1 h).cell (v := .slice At l.length ct) rfl)) ?_
    (repeat (first | refine y_p (kk := ?_) | refine y_n (kk := ?_) | refine y_a (kk := ?_) | refine y_l (kk := ?_) | refine y_M (kk := ?_) | refine y_m (kk := ?_) | refine y_e (kk := ?_) | refine y_E (kk := ?_) | refine y_T (kk := ?_) | refine y_F (kk := ?_) | refine y_I (kk := fun _ => ?_) | refine y_J (kk := fun _ => ?_) | refine y_K (kk := fun _ => ?_) | refine y_L (kk := fun _ => ?_) | refine y_t (kk := ?_) | refine y_f (kk := ?_)))
    refine VW.Ord.rdW rfl rfl rfl rfl rfl rfl rfl rfl (fun _ => rfl) rfl rfl rfl rfl (fun _ _ => rfl) rfl rfl rfl rfl rfl rfl rfl hT hF0 (by omega) (by omega) (fun _ _ _ h => h) (fun _ _ => ?_)
    refine VW.Ord.pure rfl rfl rfl rfl (fun _ _ _ h => h) (fun w => EV.bldS rfl rfl rfl rfl rfl) ?_
    refine VW.Ord.push2 (w0 := wB) rfl rfl rfl rfl rfl rfl rfl rfl rfl rfl rfl rfl rfl (fun _ => rfl) rfl rfl hQ1.row (by omega) (fun w w' S h k hs => Kp.then h (Nat.le_trans hB h.size) k hs) hb1 (fun i hi => hQ.ge i hi) (fun lv' p w2 hF2 hrow k2 hn2 => ?_)
    have hQ2 := hQ1.push (Nat.le_trans hB k1.size) hrow k2 hn2
    refine VW.Ord.eff rfl ?_
    refine Ops.st rfl rfl rfl rfl rfl rfl ?_ (hF8 w2 hF2) (by simp) (fun w3 hu3 => Ops.nil (W.endl ⟨fun h => (by simp at h), ?_⟩))
    · obtain ⟨_, _, e⟩ := hQ2.sh; rw [e]; rfl
    refine VW.Ord.nil ?_
    have hB8' : Blk w3 b8 #[lv'] 22 := hu3.blk
    have hQ3 := hQ2.kp hu3.kp (fun k hk e => by have := (hQ2.lt hk).1; omega)
    have hb03 : Below w0.heap.size w0 w3 := Kp.then (hF0 w2 hF2) (hF0 w2 hF2).size hu3.kp (fun k (e : k = b8) => by omega)
    have hB1_3 : Blk w3 b1 #[.slice At l.length ct] 22 := hB1.kp (Kp.of_below (S := fun _ => False) hb03) (fun e => e)
    have hkp3 : Kp (fun k => k = b8 ∨ outB (.slice A tr.length c) cvs k) w w3 := ((k1.trans k2).trans hu3.kp).mono (fun k _ e => by
      rcases e with (e | e) | e
      · exact e.elim
      · exact .inr (.inl e)
      · exact .inl e)
    have hn3 := outB_push (cvs := cvs) hn2
    have hs1 := k1.size
    have hs2 := hF2.size
    have hs3 := hu3.size
    have hs12 := k2.size
    have hB9_3 := (hI.B9.kp (Below.kpB hF2) (by omega)).kp hu3.kp (fun e => h89 e.symm)
    (repeat (first | with_reducible refine W.seq ?_ | with_reducible refine Ops.nil ?_ | with_reducible refine W.region ?_ | refine z_p (kk := ?_) | refine z_a (kk := ?_) | refine z_y (kk := ?_) | refine z_n (kk := ?_) | refine z_u (kk := ?_) | with_reducible refine W.skip ?_ | with_reducible refine W.endb ?_ | with_reducible refine W.block ?_ | refine W.exit rfl ?_ | refine z_l (kk := ?_) | refine z_f (kk := ?_) | refine z_M (kk := ?_) | refine z_m (kk := ?_) | refine z_e (kk := ?_) | refine z_E (kk := ?_) | refine z_d (kk := ?_) | refine z_I (kk := fun _ => ?_) | refine z_J (kk := fun _ => ?_) | refine z_K (kk := fun _ => ?_) | refine z_L (kk := fun _ => ?_) | refine z_T (kk := ?_) | refine z_F (kk := ?_) | refine z_k (kk := fun _ _ _ _ _ => ?_) | refine z_w (kk := fun _ _ => ?_) | refine z_s (kk := fun _ _ _ _ => ?_) | refine z_D (kk := ?_) | refine z_g (kk := ?_) | refine z_h (kk := ?_)))
    rename_i Ak ck _ _ hks
    refine Ops.call rfl rfl rfl rfl rfl (clone_c (Sl.below hks hb03) (by omega)) (fun v4 w4 hO4 => ?_)
    have hb34 := hO4.bel
    have hb04 := Below.via hb03 hb34
    have hB6_4 := hB6.kp (Kp.of_below (S := fun _ => False) hb04) (fun e => e)
    have hB7_4 := hB7.kp (Kp.of_below (S := fun _ => False) hb04) (fun e => e)
    (repeat (first | with_reducible refine W.seq ?_ | with_reducible refine Ops.nil ?_ | with_reducible refine W.region ?_ | refine z_p (kk := ?_) | refine z_a (kk := ?_) | refine z_y (kk := ?_) | refine z_n (kk := ?_) | refine z_u (kk := ?_) | with_reducible refine W.skip ?_ | with_reducible refine W.endb ?_ | with_reducible refine W.block ?_ | refine W.exit rfl ?_ | refine z_l (kk := ?_) | refine z_f (kk := ?_) | refine z_M (kk := ?_) | refine z_m (kk := ?_) | refine z_e (kk := ?_) | refine z_E (kk := ?_) | refine z_d (kk := ?_) | refine z_I (kk := fun _ => ?_) | refine z_J (kk := fun _ => ?_) | refine z_K (kk := fun _ => ?_) | refine z_L (kk := fun _ => ?_) | refine z_T (kk := ?_) | refine z_F (kk := ?_) | refine z_k (kk := fun _ _ _ _ _ => ?_) | refine z_w (kk := fun _ _ => ?_) | refine z_s (kk := fun _ _ _ _ => ?_) | refine z_D (kk := ?_) | refine z_g (kk := ?_) | refine z_h (kk := ?_)))
    refine Ops.call rfl rfl rfl rfl rfl (better_c (hG.below hb04) i (by omega) (by omega) ?_) (fun v5 w5 hR => ?_)
    · obtain ⟨_, _, e⟩ := Sl.sl hV'; rw [e]; rfl
    obtain ⟨c1, c2, rfl, hC1, hC2, hb45, hC1new, hC2new⟩ := hR
    have hO5 := hO4.below hb45
    have hb05 := Below.via hb04 hb45
    have hcm : ∀ p q : Nat, p < q → q < (kid l i).length → Cmp (fun w' => Blk w' c1 #[.int .i64 (sg dep i)] 3 ∧ Blk w' c2 #[vv] 24 ∧ Below w0.heap.size w0 w') w3 98 [] [.pointer (some ⟨c1, 0, none⟩), .pointer (some ⟨c2, 0, none⟩)] (fun y x => sg dep i * (rd vs y - rd vs x)) (KK l dep vs i) ((kid l i).getD p 0) ((kid l i).getD q 0) := fun p q h1 h2 => by
      have hk := Go.Proofs.Ytdiljpnfochndaa.HP.KK_lt hTF vs hi h1 h2
      have kp := hTF.kin i p hi (by omega)
      have kq := hTF.kin i q hi h2
      simp only [Go.Proofs.Ytdiljpnfochndaa.HP.k_] at kp kq
      exact ⟨fun w' _ hg => cmp_c hg.1 hg.2.1 (Sl.below hV' hg.2.2) (Go.Proofs.Ytdiljpnfochndaa.HP.sg_cases dep i) hvs (by omega) (by omega), hk.1, hk.2⟩
    have hGs : Gst (fun w' => Blk w' c1 #[.int .i64 (sg dep i)] 3 ∧ Blk w' c2 #[vv] 24 ∧ Below w0.heap.size w0 w') v4 := fun w w' hg k => by
      have g1 := hC1new
      have g2 := hC2new
      refine ⟨hg.1.kp k (fun e => ?_), hg.2.1.kp k (fun e => ?_), Kp.then hg.2.2 hg.2.2.size k (fun j e => ?_)⟩
      · have := (hO4.own.lt _ e).2; omega
      · have := (hO4.own.lt _ e).2; omega
      · have := hO4.ge _ e; have := hb03.size; omega
    refine Ops.call rfl rfl rfl rfl rfl (sortStable_c ⟨hO5, hC1, hC2, hb05⟩ hGs (by omega) rfl rfl hcm) (fun v6 w6 hR => ?_)
    obtain ⟨os, hO6, hS6, hK6⟩ := hR
    have hos : os = SS l dep vs i := by
      refine SS_uniq hTF vs hi hS6.perm (Go.Proofs.Ytdiljpnfochndaa.HP.sortK_pw ?_)
      rw [hS6.len]; exact hK6
    subst hos
    have hsl := SS_len l dep vs i
    have hb36 := hO6.bel
    have hI6 : VisI w0 wB w6 b1 b6 b7 b8 b9 lv' (tr ++ [([], wor l i)]) (cvs ++ [.slice none 0 0]) :=
      ⟨hO6.g.2.2, hB9_3.kp (Kp.of_below (S := fun _ => False) hb36) (fun e => e), hB8'.kp (Kp.of_below (S := fun _ => False) hb36) (fun e => e), hQ3.below hb36, by have := hb36.size; omega⟩
    have hv4 : SlI w6 v4 (SS l dep vs i) := hO6.sl
    have hv4b : ∀ k, v4.ownBlock = some k → w3.heap.size ≤ k ∧ k < w6.heap.size := fun k hk => ⟨hO6.oi.ge k hk, (hO6.oi.own.lt k hk).2⟩
    have hkp6 : Kp (fun k => k = b8 ∨ outB (.slice A tr.length c) cvs k) w w6 := (hkp3.trans (Kp.of_below (S := fun _ => False) hb36)).mono (fun k _ e => by rcases e with e | e; exact e; exact e.elim)
    have hn6 : ∀ k, outB lv' (cvs ++ [.slice none 0 0]) k → outB (.slice A tr.length c) cvs k ∨ w.heap.size ≤ k := fun k hk => by
      rcases hn3 k hk with h | h
      · exact .inl h
      · exact .inr (by omega)
    have hn6' : ∀ k, outB lv' (cvs ++ [.slice none 0 0]) k → k < w3.heap.size ∨ w6.heap.size ≤ k := fun k hk => .inl (hQ3.lt hk).2
    obtain ⟨A4, ce4, rfl⟩ := hO6.sh
    have hsz36 := hb36.size
    clear hO6 hS6 hK6 hGs hcm hO5 hO4 hQ1 hQ2 hQ3 hB8' hB9_3 hF1 hF8 hn2 hn3 hkp3 hB1_3 hks hC1 hC2
    (repeat (first | with_reducible refine W.seq ?_ | with_reducible refine Ops.nil ?_ | with_reducible refine W.region ?_ | refine z_p (kk := ?_) | refine z_a (kk := ?_) | refine z_y (kk := ?_) | refine z_n (kk := ?_) | refine z_u (kk := ?_) | with_reducible refine W.skip ?_ | with_reducible refine W.endb ?_ | with_reducible refine W.block ?_ | refine W.exit rfl ?_ | refine z_l (kk := ?_) | refine z_f (kk := ?_) | refine z_M (kk := ?_) | refine z_m (kk := ?_) | refine z_e (kk := ?_) | refine z_E (kk := ?_) | refine z_d (kk := ?_) | refine z_I (kk := fun _ => ?_) | refine z_J (kk := fun _ => ?_) | refine z_K (kk := fun _ => ?_) | refine z_L (kk := fun _ => ?_) | refine z_T (kk := ?_) | refine z_F (kk := ?_) | refine z_k (kk := fun _ _ _ _ _ => ?_) | refine z_w (kk := fun _ _ => ?_) | refine z_s (kk := fun _ _ _ _ => ?_) | refine z_D (kk := ?_) | refine z_g (kk := ?_) | refine z_h (kk := ?_)))
    refine W.loop (fun m ρ w7 => ∃ (j : Nat) (ov : Value) (cvs' : List Value), m = (kid l i).length - j ∧ j ≤ (kid l i).length ∧ ρ = [(1, .pointer (some ⟨b8, 0, none⟩)), (5, .pointer (some ⟨b9, 0, none⟩)), (8, .int .i64 tr.length), (36, .slice A4 (SS l dep vs i).length ce4), (37, .int .i64 (SS l dep vs i).length), (38, .int .i64 j)] ∧
      VisI w0 wB w7 b1 b6 b7 b8 b9 ov (tr ++ ((kT (subT (SS l dep vs) l N) tr.length ((SS l dep vs i).take j)).1, wor l i) :: (kT (subT (SS l dep vs) l N) tr.length ((SS l dep vs i).take j)).2) cvs' ∧ SlI w7 (.slice A4 (SS l dep vs i).length ce4) (SS l dep vs i) ∧
      Kp (fun k => k = b8 ∨ outB (.slice A tr.length c) cvs k) w w7 ∧ (∀ k, outB ov cvs' k → outB (.slice A tr.length c) cvs k ∨ w.heap.size ≤ k) ∧ (∀ k, outB ov cvs' k → k < w3.heap.size ∨ w6.heap.size ≤ k) ∧ w6.heap.size ≤ w7.heap.size)
      ⟨_, _, ⟨0, _, _, rfl, Nat.zero_le _, rfl, hI6, hv4, hkp6, hn6, hn6', Nat.le_refl _⟩, (by repeat (first | exact trivial | refine And.intro rfl ?_))⟩ ?_
    clear hI6 hkp6 hn6 hn6'
    rintro m ρ w7 ⟨j, ov, cvs', rfl, hj, rfl, hI7, hS7, hk7, hn7, hn7', hs7⟩
    have hB8 := hI7.B8
    have hB9 := hI7.B9
    have hQ7 := hI7.Q
    (repeat (first | with_reducible refine W.seq ?_ | with_reducible refine Ops.nil ?_ | with_reducible refine W.region ?_ | refine z_p (kk := ?_) | refine z_a (kk := ?_) | refine z_y (kk := ?_) | refine z_n (kk := ?_) | refine z_u (kk := ?_) | with_reducible refine W.skip ?_ | with_reducible refine W.endb ?_ | with_reducible refine W.block ?_ | refine W.exit rfl ?_ | refine z_l (kk := ?_) | refine z_f (kk := ?_) | refine z_M (kk := ?_) | refine z_m (kk := ?_) | refine z_e (kk := ?_) | refine z_E (kk := ?_) | refine z_d (kk := ?_) | refine z_I (kk := fun _ => ?_) | refine z_J (kk := fun _ => ?_) | refine z_K (kk := fun _ => ?_) | refine z_L (kk := fun _ => ?_) | refine z_T (kk := ?_) | refine z_F (kk := ?_) | refine z_k (kk := fun _ _ _ _ _ => ?_) | refine z_w (kk := fun _ _ => ?_) | refine z_s (kk := fun _ _ _ _ => ?_) | refine z_D (kk := ?_) | refine z_g (kk := ?_) | refine z_h (kk := ?_)))
    (first | refine W.condD rfl (fun hc => ?_) (fun hc => ?_) | refine W.condE rfl (fun hc => ?_) (fun hc => ?_) | refine W.condN rfl (fun hc => ?_) (fun hc => ?_) | refine W.cond rfl (fun hc => ?_) (fun hc => ?_))
    · have hjl : j < (SS l dep vs i).length := by omega
      (repeat (first | with_reducible refine W.seq ?_ | with_reducible refine Ops.nil ?_ | with_reducible refine W.region ?_ | refine z_p (kk := ?_) | refine z_a (kk := ?_) | refine z_y (kk := ?_) | refine z_n (kk := ?_) | refine z_u (kk := ?_) | with_reducible refine W.skip ?_ | with_reducible refine W.endb ?_ | with_reducible refine W.block ?_ | refine W.exit rfl ?_ | refine z_l (kk := ?_) | refine z_f (kk := ?_) | refine z_M (kk := ?_) | refine z_m (kk := ?_) | refine z_e (kk := ?_) | refine z_E (kk := ?_) | refine z_d (kk := ?_) | refine z_I (kk := fun _ => ?_) | refine z_J (kk := fun _ => ?_) | refine z_K (kk := fun _ => ?_) | refine z_L (kk := fun _ => ?_) | refine z_T (kk := ?_) | refine z_F (kk := ?_) | refine z_k (kk := fun _ _ _ _ _ => ?_) | refine z_w (kk := fun _ _ => ?_) | refine z_s (kk := fun _ _ _ _ => ?_) | refine z_D (kk := ?_) | refine z_g (kk := ?_) | refine z_h (kk := ?_)))
      have hmem := SS_mem hTF vs hi hjl
      obtain ⟨m, hm⟩ := Int.eq_ofNat_of_zero_le (show 0 ≤ (SS l dep vs i).getD j 0 by omega)
      have hfs := flat_split (f := subO (SS l dep vs) N) (SS l dep vs i) j hjl
      have hl2 := Go.Proofs.Ytdiljpnfochndaa.HP.kT_len2 (SS l dep vs) l N tr.length ((SS l dep vs i).take j)
      have hsn := kT_snoc (subT (SS l dep vs) l N) tr.length ((SS l dep vs i).take j) ((SS l dep vs i).getD j 0)
      rw [← Go.Proofs.Ytdiljpnfochndaa.HP.take_snoc _ _ hjl] at hsn
      rw [hm] at hfs hmem hsn
      simp only [hm]
      generalize hP : kT (subT (SS l dep vs) l N) tr.length ((SS l dep vs i).take j) = P at *
      have hcl := ih w7 m ov _ cvs' (by omega) (by omega) hI7 (by simp only [List.length_append, List.length_cons]; omega)
      simp only [List.length_append, List.length_cons] at hcl
      rw [show tr.length + (P.2.length + 1) = tr.length + 1 + P.2.length by omega] at hcl
      refine Ops.call rfl rfl rfl rfl rfl hcl (fun v w8 hR => ?_)
      obtain ⟨ov8, cvs8, rfl, hI8, hk8, hn8⟩ := hR
      rw [List.append_assoc, List.cons_append] at hI8
      have hQ8 := hI8.Q
      have hB8_8 := hI8.B8
      have hS8 : SlI w8 (.slice A4 (SS l dep vs i).length ce4) (SS l dep vs i) := hS7.kp hk8 (fun k hk e => by
        have := hv4b k hk
        rcases e with e | e
        · have := hI7.hB; have := hb03.size; omega
        · rcases hn7' k e with h | h <;> omega)
      have hPl : P.1.length = j := by
        rw [← hP, Go.Proofs.Ytdiljpnfochndaa.HP.kT_len1, List.length_take]; omega
      have hlt8 : tr.length < (tr ++ (P.1, wor l i) :: (P.2 ++ subT (SS l dep vs) l N m (tr.length + 1 + P.2.length))).length := by simp only [List.length_append, List.length_cons]; omega
      have hk8' : kid (tr ++ (P.1, wor l i) :: (P.2 ++ subT (SS l dep vs) l N m (tr.length + 1 + P.2.length))) tr.length = P.1 := app_kid
      have hw8' : wor (tr ++ (P.1, wor l i) :: (P.2 ++ subT (SS l dep vs) l N m (tr.length + 1 + P.2.length))) tr.length = wor l i := app_wor
      have hset := app_set (tr := tr) (r := P.2 ++ subT (SS l dep vs) l N m (tr.length + 1 + P.2.length)) (a := (P.1, wor l i)) (b := (P.1 ++ [((tr.length + 1 + P.2.length : Nat) : Int)], wor l i))
      generalize tr ++ (P.1, wor l i) :: (P.2 ++ subT (SS l dep vs) l N m (tr.length + 1 + P.2.length)) = L8 at *
      have hown := hQ8.own tr.length hlt8
      have hsep := hQ8.sep tr.length hlt8
      rw [show (L8.getD tr.length ([], 0)).1 = P.1 by rw [← hk8']; simp [Go.Proofs.Ytdiljpnfochndaa.HP.kid]] at hown
      obtain ⟨g8, c8, rfl, hcell⟩ := hQ8.cell hlt8
      have hgrow := fun {w1 w' lv' x} => hQ8.grow (w1 := w1) (w' := w') (lv' := lv') (x := x) hI8.hB hlt8
      rw [hk8', hw8'] at hgrow
      have hout := fun {lv'} => outB_set (ov := .slice (some ⟨g8, 0, none⟩) L8.length c8) (lv' := lv') (cvs := cvs8) (w := w8) (p := tr.length) (by rw [hQ8.len]; exact hlt8)
      generalize hkv : cvs8.getD tr.length undef = kv at *
      (repeat (first | with_reducible refine W.seq ?_ | with_reducible refine Ops.nil ?_ | with_reducible refine W.region ?_ | refine z_p (kk := ?_) | refine z_a (kk := ?_) | refine z_y (kk := ?_) | refine z_n (kk := ?_) | refine z_u (kk := ?_) | with_reducible refine W.skip ?_ | with_reducible refine W.endb ?_ | with_reducible refine W.block ?_ | refine W.exit rfl ?_ | refine z_l (kk := ?_) | refine z_f (kk := ?_) | refine z_M (kk := ?_) | refine z_m (kk := ?_) | refine z_e (kk := ?_) | refine z_E (kk := ?_) | refine z_d (kk := ?_) | refine z_I (kk := fun _ => ?_) | refine z_J (kk := fun _ => ?_) | refine z_K (kk := fun _ => ?_) | refine z_L (kk := fun _ => ?_) | refine z_T (kk := ?_) | refine z_F (kk := ?_) | refine z_k (kk := fun _ _ _ _ _ => ?_) | refine z_w (kk := fun _ _ => ?_) | refine z_s (kk := fun _ _ _ _ => ?_) | refine z_D (kk := ?_) | refine z_g (kk := ?_) | refine z_h (kk := ?_)))
      have hF8 : ∀ w1, Kp (fun k => kv.ownBlock = some k) w8 w1 → Blk w1 b8 #[.slice (some ⟨g8, 0, none⟩) L8.length c8] 22 := fun w1 k => hB8_8.kp k (fun e => by have := (hsep _ e).1; omega)
      have hFc : ∀ w1, Kp (fun k => kv.ownBlock = some k) w8 w1 → w1.cell? ⟨g8, tr.length * 2, none⟩ = some kv := fun w1 k => cell_kp k hcell (fun e => (hsep _ e).2 rfl)
      refine W.ord 12 (fun w' => Kp (fun k => kv.ownBlock = some k) w8 w') [(0, 2), (1, 1), (2, 2), (3, 1), (4, 1), (5, 1), (6, 2), (7, 1), (8, 0), (9, 0), (10, 1), (11, 1), (12, 0)] rfl (by kernel_rfl) rfl (by kernel_rfl) (fun w9 k9 _ => ⟨k9.mono (fun _ _ e => e.elim), ?_⟩)
      refine VW.Ord.read' rfl rfl rfl rfl (fun _ _ _ h => h) (fun w1 h => EV.ld rfl rfl rfl ((hF8 w1 h).cell (v := .slice (some ⟨g8, 0, none⟩) L8.length c8) rfl)) ?_
      (repeat (first | refine y_p (kk := ?_) | refine y_n (kk := ?_) | refine y_a (kk := ?_) | refine y_l (kk := ?_) | refine y_M (kk := ?_) | refine y_m (kk := ?_) | refine y_e (kk := ?_) | refine y_E (kk := ?_) | refine y_T (kk := ?_) | refine y_F (kk := ?_) | refine y_I (kk := fun _ => ?_) | refine y_J (kk := fun _ => ?_) | refine y_K (kk := fun _ => ?_) | refine y_L (kk := fun _ => ?_) | refine y_t (kk := ?_) | refine y_f (kk := ?_)))
      refine VW.Ord.read' rfl rfl rfl rfl (fun _ _ _ h => h) (fun w1 h => EV.ld rfl rfl rfl ((hF8 w1 h).cell (v := .slice (some ⟨g8, 0, none⟩) L8.length c8) rfl)) ?_
      (repeat (first | refine y_p (kk := ?_) | refine y_n (kk := ?_) | refine y_a (kk := ?_) | refine y_l (kk := ?_) | refine y_M (kk := ?_) | refine y_m (kk := ?_) | refine y_e (kk := ?_) | refine y_E (kk := ?_) | refine y_T (kk := ?_) | refine y_F (kk := ?_) | refine y_I (kk := fun _ => ?_) | refine y_J (kk := fun _ => ?_) | refine y_K (kk := fun _ => ?_) | refine y_L (kk := fun _ => ?_) | refine y_t (kk := ?_) | refine y_f (kk := ?_)))
      refine VW.Ord.pure rfl rfl rfl rfl (fun _ _ _ h => h) (fun w => EV.idx rfl rfl rfl rfl rfl (by omega) (by omega)) ?_
      refine VW.Ord.pure rfl rfl rfl rfl (fun _ _ _ h => h) (fun w => EV.fld rfl rfl (ev_top _ _ _)) ?_
      rw [add_zero', add_lit, Nat.zero_add, Int.toNat_natCast]
      refine VW.Ord.read' rfl rfl rfl rfl (fun _ _ _ h => h) (fun w1 h => EV.ld rfl rfl (ev_top _ _ _) (hFc w1 h)) ?_
      (repeat (first | refine y_p (kk := ?_) | refine y_n (kk := ?_) | refine y_a (kk := ?_) | refine y_l (kk := ?_) | refine y_M (kk := ?_) | refine y_m (kk := ?_) | refine y_e (kk := ?_) | refine y_E (kk := ?_) | refine y_T (kk := ?_) | refine y_F (kk := ?_) | refine y_I (kk := fun _ => ?_) | refine y_J (kk := fun _ => ?_) | refine y_K (kk := fun _ => ?_) | refine y_L (kk := fun _ => ?_) | refine y_t (kk := ?_) | refine y_f (kk := ?_)))
      refine VW.Ord.eff rfl ?_
      refine Ops.bs1 rfl rfl rfl rfl rfl rfl rfl rfl rfl (fun w10 r10 hM10 => ?_)
      have k10 := (k9.trans hM10.kp).mono (S' := fun k => kv.ownBlock = some k) (fun i _ e => by rcases e with e | e <;> exact e.elim)
      refine Ops.nil (W.endl ⟨fun _ => k10, ?_⟩)
      have hone := own_one hM10
      refine VW.Ord.eff rfl ?_
      have hown10 := own_kp (own_kp hown k9 (fun _ _ e => e.elim)) hM10.kp (fun _ _ e => e.elim)
      refine Ops.app (sz := 0) (news := [.int .i64 ((tr.length + 1 + P.2.length : Nat) : Int)]) (m := 1) (A := ⟨r10, 0, none⟩) (c := 1) rfl rfl rfl rfl rfl rfl rfl rfl rfl (ev_top _ _ _) hown10 rfl (hone.cells (g := r10) rfl) (by simp [Value.oneCell']) (by omega) (fun v11 w11 ho11 k11 hn11 => ?_)
      have hk11 := (k10.trans k11).mono (S' := fun k => kv.ownBlock = some k) (fun i _ e => by rcases e with e | e <;> exact e)
      refine Ops.nil (W.endl ⟨fun _ => hk11, ?_⟩)
      refine VW.Ord.pure rfl rfl rfl rfl (fun _ _ _ h => h) (fun w => EV.idx rfl rfl rfl rfl rfl (by omega) (by omega)) ?_
      refine VW.Ord.pure rfl rfl rfl rfl (fun _ _ _ h => h) (fun w => EV.fld rfl rfl (ev_top _ _ _)) ?_
      rw [add_zero', add_lit, Nat.zero_add, Int.toNat_natCast]
      have hrow11 := own_kp hQ8.row hk11 (fun k hk e => (hsep k e).2 hk)
      obtain ⟨g', cap', cur, e', hb', hcs'⟩ := own_blk hrow11 (by omega)
      cases e'
      refine VW.Ord.eff rfl ?_
      refine Ops.st (b := g8) (q := tr.length * 2) (cs := cur) rfl rfl rfl rfl (ev_top _ _ _) rfl ?_ hb' (by omega) (fun w12 hu12 => ?_)
      · obtain ⟨_, _, e⟩ := own_sl' ho11; rw [e]; rfl
      have hrow12 := own_set hrow11 hb' hu12
      have k12 : Kp (fun k => (Value.slice (some ⟨g8, 0, none⟩) L8.length c8).ownBlock = some k) w11 w12 := hu12.kp.mono (fun i _ e => by simp [Value.ownBlock, e])
      have hs10 := k10.size
      have hn11' : ∀ i, v11.ownBlock = some i → kv.ownBlock = some i ∨ w8.heap.size ≤ i := fun i hi => by
        rcases hn11 i hi with e | e
        · exact .inl e
        · exact .inr (by omega)
      have hQ12 := hgrow (x := ((tr.length + 1 + P.2.length : Nat) : Int)) ho11 hk11 hn11' hrow12 k12
      rw [hset] at hQ12
      have hout12 := hout hn11'
      refine Ops.nil (W.endl ⟨fun h => (by simp at h), ?_⟩)
      refine VW.Ord.nil ?_
      have hs11 := hk11.size
      have hs12 := hu12.size
      have hs8 := hk8.size
      have hkv8 : ∀ k, kv.ownBlock = some k → outB (.slice (some ⟨g8, 0, none⟩) L8.length c8) cvs8 k := fun k e => .inr ⟨tr.length, by rw [hQ8.len]; exact hlt8, by rw [hkv]; exact e⟩
      have hg8 : outB (.slice (some ⟨g8, 0, none⟩) L8.length c8) cvs8 g8 := .inl rfl
      have hk812 : Kp (fun k => outB (.slice (some ⟨g8, 0, none⟩) L8.length c8) cvs8 k) w8 w12 := (hk11.trans k12).mono (fun k _ e => by
        rcases e with e | e
        · exact hkv8 k e
        · exact .inl e)
      have hne8 : ∀ k, outB (.slice (some ⟨g8, 0, none⟩) L8.length c8) cvs8 k → wB.heap.size ≤ k := fun k hk => (hQ8.lt hk).1
      have hI12 : VisI w0 wB w12 b1 b6 b7 b8 b9 (.slice (some ⟨g8, 0, none⟩) L8.length c8) (tr ++ ((kT (subT (SS l dep vs) l N) tr.length ((SS l dep vs i).take (j + 1))).1, wor l i) :: (kT (subT (SS l dep vs) l N) tr.length ((SS l dep vs i).take (j + 1))).2) (cvs8.set tr.length v11) := by
        refine ⟨Kp.then hI8.bel hI8.bel.size hk812 (fun k hk => by have := hne8 k hk; omega), hI8.B9.kp hk812 (fun hk => by have := hne8 _ hk; omega), hB8_8.kp hk812 (fun hk => by have := hne8 _ hk; omega), ?_, by have := hI8.hB; omega⟩
        rw [hsn]
        exact hQ12
      (repeat (first | with_reducible refine W.seq ?_ | with_reducible refine Ops.nil ?_ | with_reducible refine W.region ?_ | refine z_p (kk := ?_) | refine z_a (kk := ?_) | refine z_y (kk := ?_) | refine z_n (kk := ?_) | refine z_u (kk := ?_) | with_reducible refine W.skip ?_ | with_reducible refine W.endb ?_ | with_reducible refine W.block ?_ | refine W.exit rfl ?_ | refine z_l (kk := ?_) | refine z_f (kk := ?_) | refine z_M (kk := ?_) | refine z_m (kk := ?_) | refine z_e (kk := ?_) | refine z_E (kk := ?_) | refine z_d (kk := ?_) | refine z_I (kk := fun _ => ?_) | refine z_J (kk := fun _ => ?_) | refine z_K (kk := fun _ => ?_) | refine z_L (kk := fun _ => ?_) | refine z_T (kk := ?_) | refine z_F (kk := ?_) | refine z_k (kk := fun _ _ _ _ _ => ?_) | refine z_w (kk := fun _ _ => ?_) | refine z_s (kk := fun _ _ _ _ => ?_) | refine z_D (kk := ?_) | refine z_g (kk := ?_) | refine z_h (kk := ?_)))
      refine W.endl ⟨_, _, ⟨⟨j + 1, _, _, rfl, by omega, rfl, hI12, ?_, ?_, ?_, ?_, ?_⟩, by omega⟩, (by repeat (first | exact trivial | refine And.intro rfl ?_))⟩
      · refine hS8.kp hk812 (fun k hk e => ?_)
        have := hv4b k hk
        rcases hn8 k e with h | h
        · rcases hn7' k h with h | h <;> omega
        · omega
      · refine ((hk7.trans hk8).trans hk812).mono (fun k hk e => ?_)
        rcases e with (e | (e | e)) | e
        · exact e
        · exact .inl e
        · rcases hn7 k e with h | h
          · exact .inr h
          · omega
        · rcases hn8 k e with h | h
          · rcases hn7 k h with h | h
            · exact .inr h
            · omega
          · have := hk7.size; omega
      · intro k hk
        rcases hout12 k hk with h | h
        · rcases hn8 k h with h | h
          · exact hn7 k h
          · have := hk7.size; exact .inr (by omega)
        · have := hk7.size; exact .inr (by omega)
      · intro k hk
        rcases hout12 k hk with h | h
        · rcases hn8 k h with h | h
          · exact hn7' k h
          · exact .inr (by omega)
        · exact .inr (by omega)
      · omega
    · have hjl : j = (SS l dep vs i).length := by omega
      subst hjl
      rw [List.take_length] at hI7
      (repeat (first | with_reducible refine W.seq ?_ | with_reducible refine Ops.nil ?_ | with_reducible refine W.region ?_ | refine z_p (kk := ?_) | refine z_a (kk := ?_) | refine z_y (kk := ?_) | refine z_n (kk := ?_) | refine z_u (kk := ?_) | with_reducible refine W.skip ?_ | with_reducible refine W.endb ?_ | with_reducible refine W.block ?_ | refine W.exit rfl ?_ | refine z_l (kk := ?_) | refine z_f (kk := ?_) | refine z_M (kk := ?_) | refine z_m (kk := ?_) | refine z_e (kk := ?_) | refine z_E (kk := ?_) | refine z_d (kk := ?_) | refine z_I (kk := fun _ => ?_) | refine z_J (kk := fun _ => ?_) | refine z_K (kk := fun _ => ?_) | refine z_L (kk := fun _ => ?_) | refine z_T (kk := ?_) | refine z_F (kk := ?_) | refine z_k (kk := fun _ _ _ _ _ => ?_) | refine z_w (kk := fun _ _ => ?_) | refine z_s (kk := fun _ _ _ _ => ?_) | refine z_D (kk := ?_) | refine z_g (kk := ?_) | refine z_h (kk := ?_)))
      exact W.fret rfl ⟨ov, cvs', rfl, hI7, hk7, hn7⟩
end Go.Proofs.Ytdiljpnfochndaa
namespace Go.Proofs.Ytdiljpnfochndaa
open Go Go.RowKit Go.Proofs.Ytdiljpnfochndaa.VW
open Go.Proofs.Ytdiljpnfochndaa.HP (Nd kid wor leafB rd evB sg TF kT subT subO SS gameOf gameOf_TF ValP SS_ord subO_len)
attribute [local irreducible] W Ops OrdA VW.Ord OrdX
def sortM (l : List Nd) (dep vs : List Int) : List Nd := subT (SS l dep vs) l l.length 0 0
def SortR (l : List Nd) (w w' : World) (r : Value) : Prop := (gameOf l).elim (r = .tuple #[.slice none 0 0, .int .i64 2]) fun dep => ∃ vs ov cvs, ValP l dep (wor l) vs ∧ r = .tuple #[ov, .int .i64 0] ∧ TQ w.heap.size w' ov (sortM l dep vs) cvs
theorem val_bds {l : List Nd} {dep vs : List Int} (hT : TF l dep) (hv : ValP l dep (wor l) vs) (j : Nat) : -1099511627776 ≤ vs.getD j 0 ∧ vs.getD j 0 ≤ 1099511627776 := by
  by_cases h : j < l.length
  · have := Go.Proofs.Ytdiljpnfochndaa.HP.val_bd hT hv (lo := -100) (hi := 100) (fun i hi _ => by have := hT.wor i hi; omega) j h
    omega
  · have := hv.len
    rw [List.getD_eq_getElem?_getD, List.getElem?_eq_none (by omega)]
    simp
set_option maxHeartbeats 4000000 in
theorem sorted_c {w : World} {v : Value} {l : List Nd} (hT : TreeM w v l) (hl : l.length ≤ 9223372036854775807) :
    Calls Try.prog 50 #[v] w (Ret fun r w' => Below w.heap.size w w' ∧ SortR l w w' r) := by
  obtain ⟨At, ct, rfl⟩ := hT.sl
  refine calls_W (vs := [_]) Try.func50 rfl (by kernel_rfl) rfl ?_
  (repeat (first | with_reducible refine W.seq ?_ | with_reducible refine Ops.nil ?_ | with_reducible refine W.region ?_ | refine z_p (kk := ?_) | refine z_a (kk := ?_) | refine z_y (kk := ?_) | refine z_n (kk := ?_) | refine z_u (kk := ?_) | with_reducible refine W.skip ?_ | with_reducible refine W.endb ?_ | with_reducible refine W.block ?_ | refine W.exit rfl ?_ | refine z_l (kk := ?_) | refine z_f (kk := ?_) | refine z_M (kk := ?_) | refine z_m (kk := ?_) | refine z_e (kk := ?_) | refine z_E (kk := ?_) | refine z_d (kk := ?_) | refine z_I (kk := fun _ => ?_) | refine z_J (kk := fun _ => ?_) | refine z_K (kk := fun _ => ?_) | refine z_L (kk := fun _ => ?_) | refine z_T (kk := ?_) | refine z_F (kk := ?_) | refine z_k (kk := fun _ _ _ _ _ => ?_) | refine z_w (kk := fun _ _ => ?_) | refine z_s (kk := fun _ _ _ _ => ?_) | refine z_D (kk := ?_) | refine z_g (kk := ?_) | refine z_h (kk := ?_)))
  refine Ops.box rfl rfl rfl rfl (fun w1 b1 hM1 => ?_)
  have hb1 : Below w.heap.size w w1 := Below.put (Below.refl _ _) hM1.kp (fun _ e => e.elim)
  have hB1 : Blk w1 b1 #[.slice At l.length ct] 22 := hM1.at_
  have hT1 := hT.below hb1
  (repeat (first | with_reducible refine W.seq ?_ | with_reducible refine Ops.nil ?_ | with_reducible refine W.region ?_ | refine z_p (kk := ?_) | refine z_a (kk := ?_) | refine z_y (kk := ?_) | refine z_n (kk := ?_) | refine z_u (kk := ?_) | with_reducible refine W.skip ?_ | with_reducible refine W.endb ?_ | with_reducible refine W.block ?_ | refine W.exit rfl ?_ | refine z_l (kk := ?_) | refine z_f (kk := ?_) | refine z_M (kk := ?_) | refine z_m (kk := ?_) | refine z_e (kk := ?_) | refine z_E (kk := ?_) | refine z_d (kk := ?_) | refine z_I (kk := fun _ => ?_) | refine z_J (kk := fun _ => ?_) | refine z_K (kk := fun _ => ?_) | refine z_L (kk := fun _ => ?_) | refine z_T (kk := ?_) | refine z_F (kk := ?_) | refine z_k (kk := fun _ _ _ _ _ => ?_) | refine z_w (kk := fun _ _ => ?_) | refine z_s (kk := fun _ _ _ _ => ?_) | refine z_D (kk := ?_) | refine z_g (kk := ?_) | refine z_h (kk := ?_)))
  refine Ops.call rfl rfl rfl rfl rfl (newGame_c hT1 hl) (fun r w2 hR => ?_)
  obtain ⟨hb12, hR⟩ := hR
  have hb2 := Below.via hb1 hb12
  cases hg : gameOf l with
  | none =>
    rw [hg] at hR
    obtain ⟨p, hp1, rfl⟩ := hR
    (repeat (first | with_reducible refine W.seq ?_ | with_reducible refine Ops.nil ?_ | with_reducible refine W.region ?_ | refine z_p (kk := ?_) | refine z_a (kk := ?_) | refine z_y (kk := ?_) | refine z_n (kk := ?_) | refine z_u (kk := ?_) | with_reducible refine W.skip ?_ | with_reducible refine W.endb ?_ | with_reducible refine W.block ?_ | refine W.exit rfl ?_ | refine z_l (kk := ?_) | refine z_f (kk := ?_) | refine z_M (kk := ?_) | refine z_m (kk := ?_) | refine z_e (kk := ?_) | refine z_E (kk := ?_) | refine z_d (kk := ?_) | refine z_I (kk := fun _ => ?_) | refine z_J (kk := fun _ => ?_) | refine z_K (kk := fun _ => ?_) | refine z_L (kk := fun _ => ?_) | refine z_T (kk := ?_) | refine z_F (kk := ?_) | refine z_k (kk := fun _ _ _ _ _ => ?_) | refine z_w (kk := fun _ _ => ?_) | refine z_s (kk := fun _ _ _ _ => ?_) | refine z_D (kk := ?_) | refine z_g (kk := ?_) | refine z_h (kk := ?_)))
    refine W.condT rfl (by first | rfl | assumption | (simp only [bnf] <;> omega) | (simp only [*, bnf]; done) | fail) ?_
    (repeat (first | with_reducible refine W.seq ?_ | with_reducible refine Ops.nil ?_ | with_reducible refine W.region ?_ | refine z_p (kk := ?_) | refine z_a (kk := ?_) | refine z_y (kk := ?_) | refine z_n (kk := ?_) | refine z_u (kk := ?_) | with_reducible refine W.skip ?_ | with_reducible refine W.endb ?_ | with_reducible refine W.block ?_ | refine W.exit rfl ?_ | refine z_l (kk := ?_) | refine z_f (kk := ?_) | refine z_M (kk := ?_) | refine z_m (kk := ?_) | refine z_e (kk := ?_) | refine z_E (kk := ?_) | refine z_d (kk := ?_) | refine z_I (kk := fun _ => ?_) | refine z_J (kk := fun _ => ?_) | refine z_K (kk := fun _ => ?_) | refine z_L (kk := fun _ => ?_) | refine z_T (kk := ?_) | refine z_F (kk := ?_) | refine z_k (kk := fun _ _ _ _ _ => ?_) | refine z_w (kk := fun _ _ => ?_) | refine z_s (kk := fun _ _ _ _ => ?_) | refine z_D (kk := ?_) | refine z_g (kk := ?_) | refine z_h (kk := ?_)))
    exact W.fret rfl ⟨hb2, by unfold SortR; rw [hg]; rfl⟩
  | some dep =>
    rw [hg] at hR
    obtain ⟨g, rfl, hgs, hG⟩ := hR
    have hTF := gameOf_TF hg
    (repeat (first | with_reducible refine W.seq ?_ | with_reducible refine Ops.nil ?_ | with_reducible refine W.region ?_ | refine z_p (kk := ?_) | refine z_a (kk := ?_) | refine z_y (kk := ?_) | refine z_n (kk := ?_) | refine z_u (kk := ?_) | with_reducible refine W.skip ?_ | with_reducible refine W.endb ?_ | with_reducible refine W.block ?_ | refine W.exit rfl ?_ | refine z_l (kk := ?_) | refine z_f (kk := ?_) | refine z_M (kk := ?_) | refine z_m (kk := ?_) | refine z_e (kk := ?_) | refine z_E (kk := ?_) | refine z_d (kk := ?_) | refine z_I (kk := fun _ => ?_) | refine z_J (kk := fun _ => ?_) | refine z_K (kk := fun _ => ?_) | refine z_L (kk := fun _ => ?_) | refine z_T (kk := ?_) | refine z_F (kk := ?_) | refine z_k (kk := fun _ _ _ _ _ => ?_) | refine z_w (kk := fun _ _ => ?_) | refine z_s (kk := fun _ _ _ _ => ?_) | refine z_D (kk := ?_) | refine z_g (kk := ?_) | refine z_h (kk := ?_)))
    refine W.condF rfl (by first | rfl | assumption | (simp only [bnf] <;> omega) | (simp only [*, bnf]; done) | fail) ?_
    (repeat (first | with_reducible refine W.seq ?_ | with_reducible refine Ops.nil ?_ | with_reducible refine W.region ?_ | refine z_p (kk := ?_) | refine z_a (kk := ?_) | refine z_y (kk := ?_) | refine z_n (kk := ?_) | refine z_u (kk := ?_) | with_reducible refine W.skip ?_ | with_reducible refine W.endb ?_ | with_reducible refine W.block ?_ | refine W.exit rfl ?_ | refine z_l (kk := ?_) | refine z_f (kk := ?_) | refine z_M (kk := ?_) | refine z_m (kk := ?_) | refine z_e (kk := ?_) | refine z_E (kk := ?_) | refine z_d (kk := ?_) | refine z_I (kk := fun _ => ?_) | refine z_J (kk := fun _ => ?_) | refine z_K (kk := fun _ => ?_) | refine z_L (kk := fun _ => ?_) | refine z_T (kk := ?_) | refine z_F (kk := ?_) | refine z_k (kk := fun _ _ _ _ _ => ?_) | refine z_w (kk := fun _ _ => ?_) | refine z_s (kk := fun _ _ _ _ => ?_) | refine z_D (kk := ?_) | refine z_g (kk := ?_) | refine z_h (kk := ?_)))
    refine Ops.alloc rfl rfl rfl rfl (fun w3 b6 hM3 => ?_)
    refine Ops.st rfl rfl rfl rfl rfl rfl rfl hM3.at_ (by decide) (fun w4 hu4 => ?_)
    have k4 := hM3.kp.trans hu4.kp
    have e3 := hM3.r_eq
    have hb24 : Below w2.heap.size w2 w4 := Below.put (Below.refl _ _) k4 (fun i hi => by rcases hi with hi | hi; exact hi.elim; omega)
    have hb4 := Below.via hb2 hb24
    have hB6 : Blk w4 b6 #[.func (.func 85) #[.pointer (some ⟨g, 0, none⟩)] #[]] 95 := hu4.blk
    have hG4 := hG.below hb24
    (repeat (first | with_reducible refine W.seq ?_ | with_reducible refine Ops.nil ?_ | with_reducible refine W.region ?_ | refine z_p (kk := ?_) | refine z_a (kk := ?_) | refine z_y (kk := ?_) | refine z_n (kk := ?_) | refine z_u (kk := ?_) | with_reducible refine W.skip ?_ | with_reducible refine W.endb ?_ | with_reducible refine W.block ?_ | refine W.exit rfl ?_ | refine z_l (kk := ?_) | refine z_f (kk := ?_) | refine z_M (kk := ?_) | refine z_m (kk := ?_) | refine z_e (kk := ?_) | refine z_E (kk := ?_) | refine z_d (kk := ?_) | refine z_I (kk := fun _ => ?_) | refine z_J (kk := fun _ => ?_) | refine z_K (kk := fun _ => ?_) | refine z_L (kk := fun _ => ?_) | refine z_T (kk := ?_) | refine z_F (kk := ?_) | refine z_k (kk := fun _ _ _ _ _ => ?_) | refine z_w (kk := fun _ _ => ?_) | refine z_s (kk := fun _ _ _ _ => ?_) | refine z_D (kk := ?_) | refine z_g (kk := ?_) | refine z_h (kk := ?_)))
    refine Ops.call rfl rfl rfl rfl rfl (values_c hG4 hTF (Clo.worth hG4)) (fun r w5 hR => ?_)
    obtain ⟨vs, hvs, hI⟩ := hR
    have hb45 := hI.bel
    have hv5 : SlI w5 r vs := hI.sl
    have hr1 : r.oneCell' = true := by obtain ⟨A, c, rfl⟩ := Sl.sl hv5; rfl
    refine Ops.alloc rfl rfl rfl rfl (fun w6 b7 hM6 => ?_)
    refine Ops.st rfl rfl rfl rfl rfl rfl hr1 hM6.at_ (by decide) (fun w7 hu7 => ?_)
    have k7 := hM6.kp.trans hu7.kp
    have e6 := hM6.r_eq
    have hb57 : Below w5.heap.size w5 w7 := Below.put (Below.refl _ _) k7 (fun i hi => by rcases hi with hi | hi; exact hi.elim; omega)
    have hB7 : Blk w7 b7 #[r] 24 := hu7.blk
    have hb47 := Below.via hb45 hb57
    have hb27 := Below.via hb24 hb47
    have hb7 := Below.via hb4 hb47
    have hG7 := hG4.below hb47
    have hv7 := Sl.below hv5 hb57
    have hB6' := hB6.kp (Kp.of_below (S := fun _ => False) hb47) (fun e => e)
    have hB1' := hB1.kp (Kp.of_below (S := fun _ => False) (Below.via hb12 hb27)) (fun e => e)
    have hT7 := hT.below hb7
    (repeat (first | with_reducible refine W.seq ?_ | with_reducible refine Ops.nil ?_ | with_reducible refine W.region ?_ | refine z_p (kk := ?_) | refine z_a (kk := ?_) | refine z_y (kk := ?_) | refine z_n (kk := ?_) | refine z_u (kk := ?_) | with_reducible refine W.skip ?_ | with_reducible refine W.endb ?_ | with_reducible refine W.block ?_ | refine W.exit rfl ?_ | refine z_l (kk := ?_) | refine z_f (kk := ?_) | refine z_M (kk := ?_) | refine z_m (kk := ?_) | refine z_e (kk := ?_) | refine z_E (kk := ?_) | refine z_d (kk := ?_) | refine z_I (kk := fun _ => ?_) | refine z_J (kk := fun _ => ?_) | refine z_K (kk := fun _ => ?_) | refine z_L (kk := fun _ => ?_) | refine z_T (kk := ?_) | refine z_F (kk := ?_) | refine z_k (kk := fun _ _ _ _ _ => ?_) | refine z_w (kk := fun _ _ => ?_) | refine z_s (kk := fun _ _ _ _ => ?_) | refine z_D (kk := ?_) | refine z_g (kk := ?_) | refine z_h (kk := ?_)))
    refine Ops.alloc rfl rfl rfl rfl (fun w8 b8 hM8 => ?_)
    have e8 := hM8.r_eq
    have s8 := hM8.size
    have hB8 : Blk w8 b8 #[.slice none 0 0] 22 := hM8.at_
    (repeat (first | with_reducible refine W.seq ?_ | with_reducible refine Ops.nil ?_ | with_reducible refine W.region ?_ | refine z_p (kk := ?_) | refine z_a (kk := ?_) | refine z_y (kk := ?_) | refine z_n (kk := ?_) | refine z_u (kk := ?_) | with_reducible refine W.skip ?_ | with_reducible refine W.endb ?_ | with_reducible refine W.block ?_ | refine W.exit rfl ?_ | refine z_l (kk := ?_) | refine z_f (kk := ?_) | refine z_M (kk := ?_) | refine z_m (kk := ?_) | refine z_e (kk := ?_) | refine z_E (kk := ?_) | refine z_d (kk := ?_) | refine z_I (kk := fun _ => ?_) | refine z_J (kk := fun _ => ?_) | refine z_K (kk := fun _ => ?_) | refine z_L (kk := fun _ => ?_) | refine z_T (kk := ?_) | refine z_F (kk := ?_) | refine z_k (kk := fun _ _ _ _ _ => ?_) | refine z_w (kk := fun _ _ => ?_) | refine z_s (kk := fun _ _ _ _ => ?_) | refine z_D (kk := ?_) | refine z_g (kk := ?_) | refine z_h (kk := ?_)))
    refine Ops.alloc rfl rfl rfl rfl (fun w9 b9 hM9 => ?_)
    have e9 := hM9.r_eq
    have s9 := hM9.size
    have hB8' := hB8.kp hM9.kp (fun e => e)
    (repeat (first | with_reducible refine W.seq ?_ | with_reducible refine Ops.nil ?_ | with_reducible refine W.region ?_ | refine z_p (kk := ?_) | refine z_a (kk := ?_) | refine z_y (kk := ?_) | refine z_n (kk := ?_) | refine z_u (kk := ?_) | with_reducible refine W.skip ?_ | with_reducible refine W.endb ?_ | with_reducible refine W.block ?_ | refine W.exit rfl ?_ | refine z_l (kk := ?_) | refine z_f (kk := ?_) | refine z_M (kk := ?_) | refine z_m (kk := ?_) | refine z_e (kk := ?_) | refine z_E (kk := ?_) | refine z_d (kk := ?_) | refine z_I (kk := fun _ => ?_) | refine z_J (kk := fun _ => ?_) | refine z_K (kk := fun _ => ?_) | refine z_L (kk := fun _ => ?_) | refine z_T (kk := ?_) | refine z_F (kk := ?_) | refine z_k (kk := fun _ _ _ _ _ => ?_) | refine z_w (kk := fun _ _ => ?_) | refine z_s (kk := fun _ _ _ _ => ?_) | refine z_D (kk := ?_) | refine z_g (kk := ?_) | refine z_h (kk := ?_)))
    refine Ops.st rfl rfl rfl rfl rfl rfl rfl hM9.at_ (by decide) (fun w10 hu10 => ?_)
    have s10 := hu10.size
    have k10 := ((hM8.kp.trans hM9.kp).trans hu10.kp).mono (S' := fun i => i = b9) (fun i _ e => by
      rcases e with (e | e) | e
      · exact e.elim
      · exact e.elim
      · exact e)
    have hb710 : Below w7.heap.size w7 w10 := Below.put (Below.refl _ _) k10 (fun i hi => by omega)
    have hI10 : VisI w7 w10 w10 b1 b6 b7 b8 b9 (.slice none 0 0) [] [] :=
      ⟨hb710, hu10.blk, hB8'.kp hu10.kp (by omega), TQ.nil _ _, Nat.le_refl _⟩
    have hV : VisB w7 w10 b1 b6 b7 b8 b9 g (.slice At l.length ct) r l dep vs := ⟨hB1', hB6', hB7, hG7, hT7, hv7, by omega, by omega, by omega⟩
    have hn1 := hTF.n1
    have hn60 := hTF.n60
    have hlen := subO_len (SS_ord l dep vs) hTF l.length 0 (by omega)
    have hB9 := hI10.B9
    (repeat (first | with_reducible refine W.seq ?_ | with_reducible refine Ops.nil ?_ | with_reducible refine W.region ?_ | refine z_p (kk := ?_) | refine z_a (kk := ?_) | refine z_y (kk := ?_) | refine z_n (kk := ?_) | refine z_u (kk := ?_) | with_reducible refine W.skip ?_ | with_reducible refine W.endb ?_ | with_reducible refine W.block ?_ | refine W.exit rfl ?_ | refine z_l (kk := ?_) | refine z_f (kk := ?_) | refine z_M (kk := ?_) | refine z_m (kk := ?_) | refine z_e (kk := ?_) | refine z_E (kk := ?_) | refine z_d (kk := ?_) | refine z_I (kk := fun _ => ?_) | refine z_J (kk := fun _ => ?_) | refine z_K (kk := fun _ => ?_) | refine z_L (kk := fun _ => ?_) | refine z_T (kk := ?_) | refine z_F (kk := ?_) | refine z_k (kk := fun _ _ _ _ _ => ?_) | refine z_w (kk := fun _ _ => ?_) | refine z_s (kk := fun _ _ _ _ => ?_) | refine z_D (kk := ?_) | refine z_g (kk := ?_) | refine z_h (kk := ?_)))
    refine Ops.call rfl rfl rfl rfl rfl (visit_c hV hTF hvs.len (val_bds hTF hvs) l.length w10 0 _ _ _ (by omega) (by omega) hI10 (by simp only [List.length_nil]; omega)) (fun v w11 hR => ?_)
    obtain ⟨ov, cvs, rfl, hI11, hk11, hn11⟩ := hR
    have hB8_11 := hI11.B8
    (repeat (first | with_reducible refine W.seq ?_ | with_reducible refine Ops.nil ?_ | with_reducible refine W.region ?_ | refine z_p (kk := ?_) | refine z_a (kk := ?_) | refine z_y (kk := ?_) | refine z_n (kk := ?_) | refine z_u (kk := ?_) | with_reducible refine W.skip ?_ | with_reducible refine W.endb ?_ | with_reducible refine W.block ?_ | refine W.exit rfl ?_ | refine z_l (kk := ?_) | refine z_f (kk := ?_) | refine z_M (kk := ?_) | refine z_m (kk := ?_) | refine z_e (kk := ?_) | refine z_E (kk := ?_) | refine z_d (kk := ?_) | refine z_I (kk := fun _ => ?_) | refine z_J (kk := fun _ => ?_) | refine z_K (kk := fun _ => ?_) | refine z_L (kk := fun _ => ?_) | refine z_T (kk := ?_) | refine z_F (kk := ?_) | refine z_k (kk := fun _ _ _ _ _ => ?_) | refine z_w (kk := fun _ _ => ?_) | refine z_s (kk := fun _ _ _ _ => ?_) | refine z_D (kk := ?_) | refine z_g (kk := ?_) | refine z_h (kk := ?_)))
    have hQ := hI11.Q
    have hb27s := hb27.size
    have hb12s := hb12.size
    have hb1s := hb1.size
    have hb2s := hb2.size
    exact W.fret rfl ⟨Below.via hb7 hI11.bel, by
      unfold SortR
      rw [hg]
      refine ⟨vs, ov, cvs, hvs, rfl, ?_⟩
      have := hI11.Q
      rw [List.nil_append] at this
      refine ⟨fun k hk => ?_, this.len, this.row, this.own, fun j hj k hk => ?_, this.two⟩
      · have := this.ge k hk; omega
      · have := this.sep j hj k hk; exact ⟨by omega, this.2⟩⟩
end Go.Proofs.Ytdiljpnfochndaa
/- An insertion into a sorted list. -/
namespace Go.Proofs.Ytdiljpnfochndaa.HP
theorem ins_pw {K : Int → Int} {cs : List Int} {c : Int} {j : Nat} (hp : cs.Pairwise fun a b => K a < K b) (hj : j ≤ cs.length) (hlo : ∀ x : Nat, x < j → K (cs.getD x 0) < K c) (hhi : j = cs.length ∨ K c < K (cs.getD j 0)) : (cs.take j ++ [c] ++ cs.drop j).Pairwise fun a b => K a < K b := by
  have hlo' : ∀ a ∈ cs.take j, K a < K c := fun a ha => by
    obtain ⟨x, hx, rfl⟩ := List.mem_iff_getElem.1 ha
    rw [List.length_take] at hx
    have := hlo x (by omega)
    simpa [List.getD_eq_getElem?_getD, show x < cs.length by omega] using this
  have hhi' : ∀ b ∈ cs.drop j, K c < K b := fun b hb => by
    obtain ⟨x, hx, rfl⟩ := List.mem_iff_getElem.1 hb
    rw [List.length_drop] at hx
    rcases hhi with h | h
    · omega
    · rw [List.getElem_drop]
      have h' : K c < K cs[j] := by simpa [List.getD_eq_getElem?_getD, show j < cs.length by omega] using h
      cases x with
      | zero => simpa using h'
      | succ x =>
        have := List.pairwise_iff_getElem.1 hp j (j + (x + 1)) (by omega) (by omega) (by omega)
        exact Int.lt_trans h' this
  have htd : (cs.take j ++ cs.drop j).Pairwise fun a b => K a < K b := by rw [List.take_append_drop]; exact hp
  rw [List.pairwise_append] at htd
  rw [List.append_assoc, List.pairwise_append]
  refine ⟨htd.1, ?_, fun a ha b hb => ?_⟩
  · rw [List.singleton_append, List.pairwise_cons]
    exact ⟨hhi', htd.2.1⟩
  · rw [List.singleton_append] at hb
    rcases List.mem_cons.1 hb with rfl | hb
    · exact hlo' a ha
    · exact htd.2.2 a ha b hb
theorem ins_perm {cs : List Int} {c : Int} {j : Nat} : (cs.take j ++ [c] ++ cs.drop j).Perm (cs ++ [c]) := by
  have h : (cs.take j ++ [c] ++ cs.drop j).Perm (cs.take j ++ (cs.drop j ++ [c])) := by
    rw [List.append_assoc]
    exact List.Perm.append_left _ List.perm_append_comm
  rw [← List.append_assoc, List.take_append_drop] at h
  exact h
end Go.Proofs.Ytdiljpnfochndaa.HP
/- The tree with other orders of children is a tree, with the same values. -/
namespace Go.Proofs.Ytdiljpnfochndaa.HP
abbrev nd (T : List Nd) (p : Nat) : Nd := T.getD p ([], 0)
structure SegT (S : Int → List Int) (l : List Nd) (base : Nat) (T : List Nd) (O : List Int) : Prop where
  len : T.length = O.length
  wor : ∀ p : Nat, p < T.length → (nd T p).2 = wor l (O.getD p 0)
  klen : ∀ p : Nat, p < T.length → (nd T p).1.length = (S (O.getD p 0)).length
  kids : ∀ p b : Nat, p < T.length → b < (S (O.getD p 0)).length → ∃ q : Nat, (nd T p).1.getD b 0 = ((base + q : Nat) : Int) ∧ p < q ∧ q < T.length ∧ O.getD q 0 = (S (O.getD p 0)).getD b 0
theorem nd_l {T T' : List Nd} {p : Nat} (h : p < T.length) : nd (T ++ T') p = nd T p := by simp [nd, List.getD_eq_getElem?_getD, List.getElem?_append_left h]
theorem nd_r {T T' : List Nd} {p : Nat} (h : T.length ≤ p) : nd (T ++ T') p = nd T' (p - T.length) := by simp [nd, List.getD_eq_getElem?_getD, List.getElem?_append_right h]
theorem gd_l {T T' : List Int} {p : Nat} (h : p < T.length) : (T ++ T').getD p 0 = T.getD p 0 := by simp [List.getD_eq_getElem?_getD, List.getElem?_append_left h]
theorem gd_r {T T' : List Int} {p : Nat} (h : T.length ≤ p) : (T ++ T').getD p 0 = T'.getD (p - T.length) 0 := by simp [List.getD_eq_getElem?_getD, List.getElem?_append_right h]
theorem SegT.nil (S : Int → List Int) (l : List Nd) (base : Nat) : SegT S l base [] [] := ⟨rfl, fun p h => by simp at h, fun p h => by simp at h, fun p b h => by simp at h⟩
theorem SegT.append {S : Int → List Int} {l : List Nd} {base : Nat} {T T' : List Nd} {O O' : List Int} (h : SegT S l base T O) (k : SegT S l (base + T.length) T' O') : SegT S l base (T ++ T') (O ++ O') := by
  have hl := h.len
  refine ⟨by simp [h.len, k.len], fun p hp => ?_, fun p hp => ?_, fun p b hp hb => ?_⟩ <;> rw [List.length_append] at hp <;> by_cases e : p < T.length
  · rw [nd_l e, gd_l (by omega)]; exact h.wor p e
  · rw [nd_r (by omega), gd_r (by omega), ← hl]; exact k.wor _ (by omega)
  · rw [nd_l e, gd_l (by omega)]; exact h.klen p e
  · rw [nd_r (by omega), gd_r (by omega), ← hl]; exact k.klen _ (by omega)
  · rw [gd_l (by omega)] at hb
    obtain ⟨q, h1, h2, h3, h4⟩ := h.kids p b e hb
    exact ⟨q, by rw [nd_l e]; exact h1, h2, by rw [List.length_append]; omega, by rw [gd_l (by omega), gd_l (by omega)]; exact h4⟩
  · rw [gd_r (by omega), ← hl] at hb
    obtain ⟨q, h1, h2, h3, h4⟩ := k.kids (p - T.length) b (by omega) hb
    refine ⟨T.length + q, by rw [nd_r (by omega), h1]; congr 1; omega, by omega, by rw [List.length_append]; omega, ?_⟩
    rw [gd_r (by omega), gd_r (by omega), ← hl, show T.length + q - T.length = q by omega]; exact h4
theorem SegT.node {S : Int → List Int} {l : List Nd} {base : Nat} {i : Int} {F : List Nd} {P r : List Int} (h : SegT S l (base + 1) F P) (hr : r.length = (S i).length)
    (hk : ∀ b : Nat, b < (S i).length → ∃ q : Nat, r.getD b 0 = ((base + 1 + q : Nat) : Int) ∧ q < F.length ∧ P.getD q 0 = (S i).getD b 0) : SegT S l base ((r, Go.Proofs.Ytdiljpnfochndaa.HP.wor l i) :: F) (i :: P) := by
  refine ⟨by simp [h.len], fun p hp => ?_, fun p hp => ?_, fun p b hp hb => ?_⟩ <;> cases p with
  | zero => first | rfl | exact hr | (
      obtain ⟨q, h1, h2, h3⟩ := hk b hb
      exact ⟨q + 1, by show r.getD b 0 = _; rw [h1]; congr 1; omega, by omega, by simp; omega, by simpa using h3⟩)
  | succ p => first
    | exact h.wor p (by simpa using hp)
    | exact h.klen p (by simpa using hp)
    | (
      obtain ⟨q, h1, h2, h3, h4⟩ := h.kids p b (by simpa using hp) hb
      exact ⟨q + 1, by show (nd F p).1.getD b 0 = _; rw [h1]; congr 1; omega, by omega, by simp; omega, by simpa using h4⟩)
theorem subO_head {S : Int → List Int} {f : Nat} {i : Int} (h : 1 ≤ f) : 0 < (subO S f i).length ∧ (subO S f i).getD 0 0 = i := by
  obtain ⟨g, rfl⟩ : ∃ g, f = g + 1 := ⟨f - 1, by omega⟩
  exact ⟨by simp [subO], by simp [subO]⟩
theorem seg_sub {S : Int → List Int} {l : List Nd} {dep : List Int} (hS : Ord' S l) (hT : TF l dep) : ∀ (f i : Nat), i < l.length → l.length - i ≤ f → ∀ at_ : Nat, SegT S l at_ (subT S l f i at_) (subO S f i)
  | 0, i, hi, hf, _ => by omega
  | f + 1, i, hi, hf, at_ => by
    have key : ∀ cs : List Int, (∀ c ∈ cs, ∃ m : Nat, c = m ∧ m < l.length ∧ l.length - m ≤ f) → SegT S l (at_ + 1) (kT (subT S l f) at_ cs).2 (cs.flatMap (subO S f)) ∧
        ∀ b : Nat, b < cs.length → ∃ q : Nat, (kT (subT S l f) at_ cs).1.getD b 0 = ((at_ + 1 + q : Nat) : Int) ∧ q < (kT (subT S l f) at_ cs).2.length ∧ (cs.flatMap (subO S f)).getD q 0 = cs.getD b 0 := fun cs => by
      refine rev_ind (P := fun cs => (∀ c ∈ cs, ∃ m : Nat, c = m ∧ m < l.length ∧ l.length - m ≤ f) → SegT S l (at_ + 1) (kT (subT S l f) at_ cs).2 (cs.flatMap (subO S f)) ∧
        ∀ b : Nat, b < cs.length → ∃ q : Nat, (kT (subT S l f) at_ cs).1.getD b 0 = ((at_ + 1 + q : Nat) : Int) ∧ q < (kT (subT S l f) at_ cs).2.length ∧ (cs.flatMap (subO S f)).getD q 0 = cs.getD b 0) ?_ (fun cs c ih => ?_) cs
      · exact fun _ => ⟨SegT.nil _ _ _, fun b hb => by simp at hb⟩
      · intro hc
        obtain ⟨h1, h2⟩ := ih fun c hc' => hc c (by simp [hc'])
        obtain ⟨m, rfl, hm, hmf⟩ := hc c (by simp)
        have hsub := seg_sub hS hT f m hm hmf (at_ + 1 + (kT (subT S l f) at_ cs).2.length)
        have hhd := subO_head (S := S) (i := m) (show 1 ≤ f by omega)
        have hl1 := kT_len1 (subT S l f) at_ cs
        have hl2 := h1.len
        have hl3 := hsub.len
        have happ := h1.append hsub
        rw [kT_snoc, List.flatMap_append]
        simp only [List.flatMap_cons, List.flatMap_nil, List.append_nil]
        refine ⟨happ, fun b hb => ?_⟩
        by_cases e : b < cs.length
        · obtain ⟨q, g1, g2, g3⟩ := h2 b e
          exact ⟨q, by rw [gd_l (by omega)]; exact g1, by rw [List.length_append]; omega, by rw [gd_l (by omega), gd_l e]; exact g3⟩
        · rw [List.length_append, List.length_singleton] at hb
          have hbe : b = cs.length := by omega
          subst hbe
          refine ⟨(kT (subT S l f) at_ cs).2.length, by rw [gd_r (by omega), hl1, Nat.sub_self]; rfl, by rw [List.length_append]; omega, ?_⟩
          rw [gd_r (by omega), gd_r (by omega), ← hl2, Nat.sub_self, Nat.sub_self, hhd.2]
          rfl
    have hcs : ∀ c ∈ S i, ∃ m : Nat, c = m ∧ m < l.length ∧ l.length - m ≤ f := fun c hc => by
      rw [hS.mem hi] at hc
      obtain ⟨h1, h2⟩ := mem_kid hT hi hc
      exact ⟨c.toNat, by omega, by omega, by omega⟩
    obtain ⟨h1, h2⟩ := key (S i) hcs
    exact h1.node (kT_len1 _ _ _) h2
theorem getD_inj {O : List Int} (h : O.Nodup) {p q : Nat} (hp : p < O.length) (hq : q < O.length) (e : O.getD p 0 = O.getD q 0) : p = q := by
  have : O[p] = O[q] := by simpa [List.getD_eq_getElem?_getD, hp, hq] using e
  exact (List.getElem_inj (h₀ := hp) (h₁ := hq) h).1 this
theorem mem_getD {O : List Int} {x : Int} (h : x ∈ O) : ∃ p : Nat, p < O.length ∧ O.getD p 0 = x := by
  obtain ⟨p, hp, rfl⟩ := List.mem_iff_getElem.1 h
  exact ⟨p, hp, by simp [List.getD_eq_getElem?_getD, hp]⟩
/-- The whole tree, with its places. -/
structure SrtT (S : Int → List Int) (l : List Nd) (s : List Nd) (O : List Int) : Prop where
  seg : SegT S l 0 s O
  nod : O.Nodup
  n : s.length = l.length
  rng : ∀ x ∈ O, 0 ≤ x ∧ x < l.length
  all : ∀ x : Nat, x < l.length → ∃ p : Nat, p < s.length ∧ O.getD p 0 = x
  hd : O.getD 0 0 = 0
theorem srt_of {S : Int → List Int} {l : List Nd} {dep : List Int} (hS : Ord' S l) (hT : TF l dep) : SrtT S l (subT S l l.length 0 0) (subO S l.length 0) := by
  have hn1 := hT.n1
  have hseg := seg_sub hS hT l.length 0 (by omega) (by omega) 0
  have hnd := subO_nodup hS hT l.length 0 (by omega)
  have hmem := subO_mem hS hT l.length 0 (by omega)
  have hhd := subO_head (S := S) (i := 0) (show 1 ≤ l.length by omega)
  rw [show ((0 : Nat) : Int) = 0 from rfl] at hseg hnd hmem
  have hall : ∀ x : Nat, x < l.length → ∃ p : Nat, p < (subO S l.length 0).length ∧ (subO S l.length 0).getD p 0 = x := by
    intro x
    induction x using Nat.strongRecOn with
    | _ x ih =>
      intro hx
      by_cases h0 : x = 0
      · subst h0; exact ⟨0, hhd.1, hhd.2⟩
      · obtain ⟨a, b, ha, hb, hk⟩ := hT.cov x (by omega) hx
        have hk2 := hT.kin a b ha hb
        obtain ⟨p, hp, e⟩ := ih a (by omega) ha
        have hm : (x : Int) ∈ S a := (hS.mem ha).2 (by rw [← hk]; exact getD_mem hb)
        obtain ⟨b', hb', e'⟩ := mem_getD hm
        obtain ⟨q, _, _, h3, h4⟩ := hseg.kids p b' (by rw [hseg.len]; exact hp) (by rw [e]; exact hb')
        rw [e, e'] at h4
        exact ⟨q, by rw [← hseg.len]; exact h3, h4⟩
  have hlen : (subO S l.length 0).length = l.length := by
    refine Nat.le_antisymm (nodup_len _ _ hnd fun x hx => by have := hmem x hx; omega) ?_
    have h := nodup_sub ((List.range l.length).map fun i : Nat => (i : Int)) (subO S l.length 0) (by
      rw [List.nodup_iff_pairwise_ne, List.pairwise_map]
      exact (List.nodup_iff_pairwise_ne.1 List.nodup_range).imp fun h e => h (by omega)) (fun x hx => by
      obtain ⟨i, hi, rfl⟩ := List.mem_map.1 hx
      obtain ⟨p, hp, e⟩ := hall i (List.mem_range.1 hi)
      rw [← e]; exact getD_mem hp)
    simpa using h
  exact ⟨hseg, hnd, by rw [hseg.len, hlen], fun x hx => by have := hmem x hx; omega, fun x hx => by obtain ⟨p, h1, h2⟩ := hall x hx; exact ⟨p, by rw [hseg.len]; exact h1, h2⟩, hhd.2⟩
theorem SrtT.at_ {S : Int → List Int} {l s : List Nd} {O : List Int} (h : SrtT S l s O) {p : Nat} (hp : p < s.length) : ∃ i : Nat, O.getD p 0 = i ∧ i < l.length := by
  have hm := h.rng _ (getD_mem (show p < O.length by rw [← h.seg.len]; exact hp))
  exact ⟨(O.getD p 0).toNat, by omega, by omega⟩
theorem SrtT.kid {S : Int → List Int} {l s : List Nd} {O : List Int} (h : SrtT S l s O) {p b : Nat} (hp : p < s.length) (hb : b < (kid s p).length) : ∃ q : Nat, k_ s p b = q ∧ p < q ∧ q < s.length ∧ O.getD q 0 = (S (O.getD p 0)).getD b 0 := by
  have hb' : b < (S (O.getD p 0)).length := by rw [← h.seg.klen p hp]; exact hb
  obtain ⟨q, h1, h2, h3, h4⟩ := h.seg.kids p b hp hb'
  exact ⟨q, by simpa [k_, Go.Proofs.Ytdiljpnfochndaa.HP.kid] using h1, h2, h3, h4⟩
theorem SrtT.tk {S : Int → List Int} {l s : List Nd} {O : List Int} {dep : List Int} (h : SrtT S l s O) (hS : Ord' S l) (hT : TF l dep) : TK s := by
  have hn := h.n
  have hol := h.seg.len
  have hmem : ∀ {a b : Nat}, a < s.length → b < (Go.Proofs.Ytdiljpnfochndaa.HP.kid s a).length → ∃ (i β : Nat), O.getD a 0 = i ∧ i < l.length ∧ b < (S i).length ∧ β < (Go.Proofs.Ytdiljpnfochndaa.HP.kid l i).length ∧ (S i).getD b 0 = k_ l i β := fun {a b} ha hb => by
    obtain ⟨i, e, hi⟩ := h.at_ ha
    have hb' : b < (S i).length := by rw [← e, ← h.seg.klen a ha]; exact hb
    obtain ⟨β, h1, h2⟩ := kid_at ((hS.mem hi).1 (getD_mem hb'))
    exact ⟨i, β, e, hi, hb', h1, h2.symm⟩
  refine ⟨by have := hT.n1; omega, by have := hT.n60; omega, fun a b ha hb => ?_, fun a b a' b' ha hb ha' hb' e => ?_, fun c h1 h2 => ?_, fun a ha => ?_⟩
  · obtain ⟨q, e, h1, h2, _⟩ := h.kid ha hb
    rw [e]; omega
  · obtain ⟨q, e1, _, h3, h4⟩ := h.kid ha hb
    obtain ⟨q', e2, _, _, h4'⟩ := h.kid ha' hb'
    have hq : q = q' := by omega
    subst hq
    obtain ⟨i, β, ei, hi, hbl, hβ, f1⟩ := hmem ha hb
    obtain ⟨i', β', ei', hi', hbl', hβ', f2⟩ := hmem ha' hb'
    rw [ei, f1] at h4
    rw [ei', f2] at h4'
    have hii := (hT.inj i β i' β' hi hβ hi' hβ' (by omega)).1
    subst hii
    have haa : a = a' := getD_inj h.nod (by omega) (by omega) (by rw [ei, ei'])
    refine ⟨haa, ?_⟩
    have hnS : (S i).Nodup := (hS i hi).nodup_iff.2 (kid_nodup hT hi)
    exact getD_inj hnS hbl hbl' (by rw [f1, f2]; omega)
  · obtain ⟨i, ei, hi⟩ := h.at_ h2
    have h0 : i ≠ 0 := fun e0 => by
      subst e0
      have := getD_inj h.nod (p := c) (q := 0) (by omega) (by omega) (by rw [ei, h.hd]; rfl)
      omega
    obtain ⟨y, b, hy, hb, hk⟩ := hT.cov i (by omega) hi
    obtain ⟨p, hp, ep⟩ := h.all y hy
    have hm : (i : Int) ∈ S y := (hS.mem hy).2 (by rw [← hk]; exact getD_mem hb)
    obtain ⟨b', hb', e'⟩ := mem_getD hm
    have hbk : b' < (Go.Proofs.Ytdiljpnfochndaa.HP.kid s p).length := by
      have := h.seg.klen p hp
      rw [ep] at this
      rw [show (Go.Proofs.Ytdiljpnfochndaa.HP.kid s p).length = (nd s p).1.length by simp [Go.Proofs.Ytdiljpnfochndaa.HP.kid], this]; exact hb'
    obtain ⟨q, e1, _, h3, h4⟩ := h.kid hp hbk
    rw [ep, e'] at h4
    have : q = c := getD_inj h.nod (by omega) (by omega) (by rw [h4, ei])
    subst this
    exact ⟨p, b', hp, hbk, e1⟩
  · obtain ⟨i, ei, hi⟩ := h.at_ ha
    have hw : Go.Proofs.Ytdiljpnfochndaa.HP.wor s a = Go.Proofs.Ytdiljpnfochndaa.HP.wor l i := by have := h.seg.wor a ha; rw [ei] at this; simpa [Go.Proofs.Ytdiljpnfochndaa.HP.wor] using this
    have hk : (Go.Proofs.Ytdiljpnfochndaa.HP.kid s a).length = (Go.Proofs.Ytdiljpnfochndaa.HP.kid l i).length := by
      have := h.seg.klen a ha
      rw [ei, (hS i hi).length_eq] at this
      simpa [Go.Proofs.Ytdiljpnfochndaa.HP.kid] using this
    rw [hw, hk]
    exact hT.wor i hi
end Go.Proofs.Ytdiljpnfochndaa.HP
/- Depths and values of the other tree. -/
namespace Go.Proofs.Ytdiljpnfochndaa.HP
theorem maxL_perm {cs ds : List Int} {g h : Int → Int} (h0 : cs ≠ []) (h0' : ds ≠ []) (e : ∀ b : Int, (∃ c ∈ cs, b ≤ g c) ↔ ∃ d ∈ ds, b ≤ h d) : maxL (cs.map g) = maxL (ds.map h) := by
  have h1 := (maxL_ge (g := g) (b := maxL (cs.map g)) h0).1 (Int.le_refl _)
  have h2 := (maxL_ge (g := h) (b := maxL (ds.map h)) h0').1 (Int.le_refl _)
  exact Int.le_antisymm ((maxL_ge h0').2 ((e _).1 h1)) ((maxL_ge h0).2 ((e _).2 h2))
theorem minL_perm {cs ds : List Int} {g h : Int → Int} (h0 : cs ≠ []) (h0' : ds ≠ []) (e : ∀ b : Int, (∀ c ∈ cs, b ≤ g c) ↔ ∀ d ∈ ds, b ≤ h d) : minL (cs.map g) = minL (ds.map h) := by
  have h1 := (minL_ge (g := g) (b := minL (cs.map g)) h0).1 (Int.le_refl _)
  have h2 := (minL_ge (g := h) (b := minL (ds.map h)) h0').1 (Int.le_refl _)
  exact Int.le_antisymm ((minL_ge h0').2 ((e _).1 h1)) ((minL_ge h0).2 ((e _).2 h2))
variable {S : Int → List Int} {l s : List Nd} {O dep dep' vs vs' : List Int}
/-- The children of a place are the places of the children. -/
theorem SrtT.kidmap (h : SrtT S l s O) {p : Nat} (hp : p < s.length) : (Go.Proofs.Ytdiljpnfochndaa.HP.kid s p).map (rd O) = S (O.getD p 0) := by
  have hl : (Go.Proofs.Ytdiljpnfochndaa.HP.kid s p).length = (S (O.getD p 0)).length := by have := h.seg.klen p hp; simpa [Go.Proofs.Ytdiljpnfochndaa.HP.kid] using this
  refine List.ext_getElem (by simp [hl]) fun b h1 h2 => ?_
  rw [List.length_map] at h1
  obtain ⟨q, e, _, _, e2⟩ := h.kid hp h1
  have e3 : (Go.Proofs.Ytdiljpnfochndaa.HP.kid s p)[b] = (q : Int) := by
    have : (Go.Proofs.Ytdiljpnfochndaa.HP.kid s p).getD b 0 = q := e
    simpa [List.getD_eq_getElem?_getD, h1] using this
  rw [List.getElem_map, e3]
  have e4 : (S (O.getD p 0)).getD b 0 = (S (O.getD p 0))[b] := by rw [List.getD_eq_getElem?_getD (l := S (O.getD p 0)), List.getElem?_eq_getElem h2]; rfl
  rw [← e4, ← e2]
  simp [rd]
theorem SrtT.dp (h : SrtT S l s O) (hS : Ord' S l) (hT : TF l dep) (hT' : TF s dep') : ∀ p : Nat, p < s.length → rd dep' p = rd dep (O.getD p 0) := by
  have hd0 := hT.dbd 0
  have hd0' := hT'.dbd 0
  intro p
  induction p using Nat.strongRecOn with
  | _ p ih =>
    intro hp
    by_cases h0 : p = 0
    · subst h0
      rw [h.hd]
      show dep'.getD 0 0 = dep.getD 0 0
      omega
    · obtain ⟨a, b, ha, hb, hk⟩ := hT'.cov p (by omega) hp
      have hka := hT'.kin a b ha hb
      have hda := hT'.kdep a b ha hb
      obtain ⟨q, e, _, _, e2⟩ := h.kid ha hb
      have hq : q = p := by omega
      subst hq
      rw [e] at hda
      rw [hda, ih a (by omega) ha, e2]
      obtain ⟨i, ei, hi⟩ := h.at_ ha
      have hb' : b < (S (O.getD a 0)).length := by
        have := h.seg.klen a ha
        rw [← this]; simpa [Go.Proofs.Ytdiljpnfochndaa.HP.kid] using hb
      rw [ei] at hb' ⊢
      obtain ⟨β, h1, h2⟩ := kid_at ((hS.mem hi).1 (getD_mem hb'))
      have := hT.kdep i β hi h1
      simp only [k_] at this
      rw [← h2, this]
theorem SrtT.ev (h : SrtT S l s O) (hS : Ord' S l) (hT : TF l dep) (hT' : TF s dep') {p : Nat} (hp : p < s.length) : evB dep' p = evB dep (O.getD p 0) := by
  unfold evB; rw [h.dp hS hT hT' p hp]
theorem SrtT.leaf (h : SrtT S l s O) (hS : Ord' S l) {p : Nat} (hp : p < s.length) : leafB s p = leafB l (O.getD p 0) := by
  obtain ⟨i, ei, hi⟩ := h.at_ hp
  have h1 : (Go.Proofs.Ytdiljpnfochndaa.HP.kid s p).length = (Go.Proofs.Ytdiljpnfochndaa.HP.kid l i).length := by
    have := h.seg.klen p hp
    rw [ei, (hS i hi).length_eq] at this
    simpa [Go.Proofs.Ytdiljpnfochndaa.HP.kid] using this
  unfold leafB
  rw [ei]
  cases e1 : Go.Proofs.Ytdiljpnfochndaa.HP.kid s p <;> cases e2 : Go.Proofs.Ytdiljpnfochndaa.HP.kid l i <;> simp [e1, e2] at h1 ⊢
theorem SrtT.wor_ (h : SrtT S l s O) {p : Nat} (hp : p < s.length) : Go.Proofs.Ytdiljpnfochndaa.HP.wor s p = Go.Proofs.Ytdiljpnfochndaa.HP.wor l (O.getD p 0) := by
  have := h.seg.wor p hp; simpa [Go.Proofs.Ytdiljpnfochndaa.HP.wor] using this
theorem SrtT.val (h : SrtT S l s O) (hS : Ord' S l) (hT : TF l dep) (hT' : TF s dep') (hv : ValP l dep (Go.Proofs.Ytdiljpnfochndaa.HP.wor l) vs) (hv' : ValP s dep' (Go.Proofs.Ytdiljpnfochndaa.HP.wor s) vs') : ∀ p : Nat, p < s.length → vs'.getD p 0 = rd vs (O.getD p 0) := by
  refine tree_ind hT' (Q := fun p => vs'.getD p 0 = rd vs (O.getD p 0)) fun p hp hk => ?_
  obtain ⟨i, ei, hi⟩ := h.at_ hp
  have hki : ∀ c ∈ Go.Proofs.Ytdiljpnfochndaa.HP.kid s p, rd vs' c = rd vs (rd O c) := fun c hc => by
    obtain ⟨m, rfl, _, e⟩ := hk c hc
    simpa [rd] using e
  have hmap : (Go.Proofs.Ytdiljpnfochndaa.HP.kid s p).map (rd O) = S i := by rw [h.kidmap hp, ei]
  have hmem : ∀ x : Int, x ∈ Go.Proofs.Ytdiljpnfochndaa.HP.kid l i ↔ ∃ c ∈ Go.Proofs.Ytdiljpnfochndaa.HP.kid s p, rd O c = x := fun x => by
    rw [← hS.mem hi, ← hmap, List.mem_map]
  rw [hv'.at_ p hp]
  rw [ei]
  show _ = vs.getD (i : Int).toNat 0
  rw [Int.toNat_natCast, hv.at_ i hi]
  unfold NV
  have hlf := h.leaf hS hp
  have hev := h.ev hS hT hT' hp
  have hw := h.wor_ hp
  rw [ei] at hlf hev hw
  rw [hlf, hev, hw]
  by_cases hl : leafB l i = true
  · rw [if_pos hl, if_pos hl]
  · have hne := leaf_ne hl
    have hne' := leaf_ne (show ¬ leafB s p = true by rw [hlf]; exact hl)
    rw [if_neg hl, if_neg hl]
    by_cases he : evB dep i = true
    · rw [if_pos he, if_pos he]
      refine maxL_perm hne' hne fun b => ⟨fun ⟨c, hc, hb⟩ => ⟨rd O c, (hmem _).2 ⟨c, hc, rfl⟩, by rw [← hki c hc]; exact hb⟩, fun ⟨x, hx, hb⟩ => ?_⟩
      obtain ⟨c, hc, rfl⟩ := (hmem x).1 hx
      exact ⟨c, hc, by rw [hki c hc]; exact hb⟩
    · rw [if_neg he, if_neg he]
      refine minL_perm hne' hne fun b => ⟨fun hb x hx => ?_, fun hb c hc => ?_⟩
      · obtain ⟨c, hc, rfl⟩ := (hmem x).1 hx
        rw [← hki c hc]; exact hb c hc
      · rw [hki c hc]; exact hb _ ((hmem _).2 ⟨c, hc, rfl⟩)
end Go.Proofs.Ytdiljpnfochndaa.HP
/- Sorting once more changes nothing; the first child has the value. -/
namespace Go.Proofs.Ytdiljpnfochndaa.HP
theorem sub_again {S S' : Int → List Int} {l s : List Nd} : ∀ (f : Nat) (i : Int) (at_ : Nat), (∀ p : Nat, p < (subT S l f i at_).length → S' ((at_ + p : Nat) : Int) = (nd (subT S l f i at_) p).1 ∧ wor s ((at_ + p : Nat) : Int) = (nd (subT S l f i at_) p).2) → subT S' s f at_ at_ = subT S l f i at_
  | 0, i, at_, _ => rfl
  | f + 1, i, at_, h => by
    have h0 := h 0 (by simp [subT])
    have e1 : S' (at_ : Int) = (kT (subT S l f) at_ (S i)).1 := h0.1
    have e2 : wor s (at_ : Int) = wor l i := h0.2
    have hr : ∀ p : Nat, p < (kT (subT S l f) at_ (S i)).2.length → S' ((at_ + 1 + p : Nat) : Int) = (nd (kT (subT S l f) at_ (S i)).2 p).1 ∧ wor s ((at_ + 1 + p : Nat) : Int) = (nd (kT (subT S l f) at_ (S i)).2 p).2 := fun p hp => by
      have := h (p + 1) (by simp [subT]; exact hp)
      rw [show at_ + (p + 1) = at_ + 1 + p by omega] at this
      exact this
    have key : ∀ cs : List Int, (∀ p : Nat, p < (kT (subT S l f) at_ cs).2.length → S' ((at_ + 1 + p : Nat) : Int) = (nd (kT (subT S l f) at_ cs).2 p).1 ∧ wor s ((at_ + 1 + p : Nat) : Int) = (nd (kT (subT S l f) at_ cs).2 p).2) →
        kT (subT S' s f) at_ (kT (subT S l f) at_ cs).1 = kT (subT S l f) at_ cs := fun cs => by
      refine rev_ind (P := fun cs => (∀ p : Nat, p < (kT (subT S l f) at_ cs).2.length → S' ((at_ + 1 + p : Nat) : Int) = (nd (kT (subT S l f) at_ cs).2 p).1 ∧ wor s ((at_ + 1 + p : Nat) : Int) = (nd (kT (subT S l f) at_ cs).2 p).2) →
        kT (subT S' s f) at_ (kT (subT S l f) at_ cs).1 = kT (subT S l f) at_ cs) (fun _ => rfl) (fun cs c ih => ?_) cs
      intro hc
      rw [kT_snoc] at hc ⊢
      generalize kT (subT S l f) at_ cs = P at *
      simp only at hc ⊢
      have h1 := ih fun p hp => by
        have := hc p (by rw [List.length_append]; omega)
        rw [nd_l hp] at this
        exact this
      have h2 := sub_again (S := S) (S' := S') (l := l) (s := s) f c (at_ + 1 + P.2.length) fun p hp => by
        have := hc (P.2.length + p) (by rw [List.length_append]; omega)
        rw [nd_r (by omega), show P.2.length + p - P.2.length = p by omega, show at_ + 1 + (P.2.length + p) = at_ + 1 + P.2.length + p by omega] at this
        exact this
      rw [kT_snoc, h1, h2]
    simp only [subT]
    rw [e1, e2, key _ hr]
theorem SS_le {l : List Nd} {dep : List Int} (hT : TF l dep) (vs : List Int) {i : Nat} (hi : i < l.length) {b b' : Nat} (h1 : b < b') (h2 : b' < (SS l dep vs i).length) : sg dep i * rd vs ((SS l dep vs i).getD b 0) ≤ sg dep i * rd vs ((SS l dep vs i).getD b' 0) := by
  have hp := List.pairwise_iff_getElem.1 (SS_pw hT vs hi) b b' (by omega) h2 h1
  have hk := hT.klen i hi
  have e1 : (SS l dep vs i).getD b 0 = (SS l dep vs i)[b] := by rw [List.getD_eq_getElem?_getD, List.getElem?_eq_getElem (by omega)]; rfl
  have e2 : (SS l dep vs i).getD b' 0 = (SS l dep vs i)[b'] := by rw [List.getD_eq_getElem?_getD, List.getElem?_eq_getElem h2]; rfl
  rw [← e1, ← e2] at hp
  unfold KK at hp
  have g1 : (kid l i).idxOf ((SS l dep vs i).getD b 0) ≤ (kid l i).length := List.idxOf_le_length
  have g2 : (kid l i).idxOf ((SS l dep vs i).getD b' 0) ≤ (kid l i).length := List.idxOf_le_length
  omega
variable {l s : List Nd} {O dep dep' vs vs' : List Int}
theorem SrtT.kidD (h : SrtT (SS l dep vs) l s O) {p b : Nat} (hp : p < s.length) (hb : b < (Go.Proofs.Ytdiljpnfochndaa.HP.kid s p).length) (hT : TF l dep) (hT' : TF s dep') (hv : ValP l dep (Go.Proofs.Ytdiljpnfochndaa.HP.wor l) vs) (hv' : ValP s dep' (Go.Proofs.Ytdiljpnfochndaa.HP.wor s) vs') : rd vs' (k_ s p b) = rd vs ((SS l dep vs (O.getD p 0)).getD b 0) := by
  obtain ⟨q, e, _, h3, h4⟩ := h.kid hp hb
  rw [e, ← h4]
  show vs'.getD (q : Int).toNat 0 = _
  rw [Int.toNat_natCast]
  exact h.val (SS_ord l dep vs) hT hT' hv hv' q h3
theorem SrtT.le (h : SrtT (SS l dep vs) l s O) {p b b' : Nat} (hp : p < s.length) (hb : b < b') (hb' : b' < (Go.Proofs.Ytdiljpnfochndaa.HP.kid s p).length) (hT : TF l dep) (hT' : TF s dep') (hv : ValP l dep (Go.Proofs.Ytdiljpnfochndaa.HP.wor l) vs) (hv' : ValP s dep' (Go.Proofs.Ytdiljpnfochndaa.HP.wor s) vs') : sg dep' p * rd vs' (k_ s p b) ≤ sg dep' p * rd vs' (k_ s p b') := by
  rw [h.kidD hp (by omega) hT hT' hv hv', h.kidD hp hb' hT hT' hv hv']
  have hev := h.ev (SS_ord l dep vs) hT hT' hp
  obtain ⟨i, ei, hi⟩ := h.at_ hp
  rw [ei] at hev ⊢
  rw [show sg dep' p = sg dep i by unfold sg; rw [hev]]
  refine SS_le hT vs hi hb ?_
  have := h.seg.klen p hp
  rw [ei] at this
  rw [← this]; simpa [Go.Proofs.Ytdiljpnfochndaa.HP.kid] using hb'
theorem SrtT.same (h : SrtT (SS l dep vs) l s O) (hT : TF l dep) (hT' : TF s dep') (hv : ValP l dep (Go.Proofs.Ytdiljpnfochndaa.HP.wor l) vs) (hv' : ValP s dep' (Go.Proofs.Ytdiljpnfochndaa.HP.wor s) vs') {p : Nat} (hp : p < s.length) : SS s dep' vs' p = Go.Proofs.Ytdiljpnfochndaa.HP.kid s p := by
  refine (SS_uniq hT' vs' hp (List.Perm.refl _) ?_).symm
  rw [List.pairwise_iff_getElem]
  intro b b' hb hb' hbb
  have e1 : (Go.Proofs.Ytdiljpnfochndaa.HP.kid s p)[b] = (Go.Proofs.Ytdiljpnfochndaa.HP.kid s p).getD b 0 := by rw [List.getD_eq_getElem?_getD, List.getElem?_eq_getElem hb]; rfl
  have e2 : (Go.Proofs.Ytdiljpnfochndaa.HP.kid s p)[b'] = (Go.Proofs.Ytdiljpnfochndaa.HP.kid s p).getD b' 0 := by rw [List.getD_eq_getElem?_getD, List.getElem?_eq_getElem hb']; rfl
  rw [e1, e2, KK_kid hT' vs' hp hb, KK_kid hT' vs' hp hb']
  have := h.le hp hbb hb' hT hT' hv hv'
  simp only [k_] at this
  omega
theorem sort_again (hT : TF l dep) (hv : ValP l dep (wor l) vs) (hs : s = subT (SS l dep vs) l l.length 0 0) (hT' : TF s dep') (hv' : ValP s dep' (wor s) vs') : subT (SS s dep' vs') s s.length 0 0 = s := by
  have h := srt_of (SS_ord l dep vs) hT
  rw [← hs] at h
  have e := sub_again (S := SS l dep vs) (S' := SS s dep' vs') (l := l) (s := s) l.length 0 0 (by
    rw [← hs]
    intro p hp
    rw [Nat.zero_add]
    refine ⟨?_, ?_⟩
    · rw [h.same hT hT' hv hv' hp]; simp [Go.Proofs.Ytdiljpnfochndaa.HP.kid]
    · simp [Go.Proofs.Ytdiljpnfochndaa.HP.wor])
  rw [h.n, ← hs] at *
  exact e
theorem SrtT.first (h : SrtT (SS l dep vs) l s O) {p : Nat} (hp : p < s.length) (hb : 0 < (Go.Proofs.Ytdiljpnfochndaa.HP.kid s p).length) (hT : TF l dep) (hT' : TF s dep') (hv : ValP l dep (Go.Proofs.Ytdiljpnfochndaa.HP.wor l) vs) (hv' : ValP s dep' (Go.Proofs.Ytdiljpnfochndaa.HP.wor s) vs') : rd vs' (k_ s p 0) = vs'.getD p 0 := by
  have hne : Go.Proofs.Ytdiljpnfochndaa.HP.kid s p ≠ [] := fun e => by rw [e] at hb; simp at hb
  have hlf : ¬ leafB s p = true := fun e => hne (by simpa [leafB] using e)
  rw [hv'.at_ p hp]
  unfold NV
  rw [if_neg hlf]
  have hall : ∀ c ∈ Go.Proofs.Ytdiljpnfochndaa.HP.kid s p, sg dep' p * rd vs' (k_ s p 0) ≤ sg dep' p * rd vs' c := fun c hc => by
    obtain ⟨b, hb', rfl⟩ := kid_at hc
    cases b with
    | zero => exact Int.le_refl _
    | succ b => exact h.le hp (Nat.succ_pos b) hb' hT hT' hv hv'
  have h0 : k_ s p 0 ∈ Go.Proofs.Ytdiljpnfochndaa.HP.kid s p := getD_mem hb
  by_cases he : evB dep' p = true
  · rw [if_pos he]
    rw [show sg dep' p = -1 by unfold sg; rw [he]; rfl] at hall
    exact Int.le_antisymm ((maxL_ge hne).2 ⟨_, h0, Int.le_refl _⟩) ((maxL_le hne).2 fun c hc => by have := hall c hc; omega)
  · rw [if_neg he]
    rw [show sg dep' p = 1 by unfold sg; rw [if_neg he]] at hall
    exact Int.le_antisymm ((minL_ge hne).2 fun c hc => by have := hall c hc; omega) ((minL_le hne).2 ⟨_, h0, Int.le_refl _⟩)
end Go.Proofs.Ytdiljpnfochndaa.HP
/- The search gives the value; so do the leaves that it visits. -/
namespace Go.Proofs.Ytdiljpnfochndaa.HP
def srW (l : List Nd) (dep : List Int) (wf : Int → Int) : Nat → Int → Int → Int → Int × List Int
  | 0, _, _, _ => (0, [])
  | f + 1, i, lo, hi => if leafB l i then (wf i, [i]) else
    (if evB dep i then (kidsS (srW l dep wf f) (evB dep i) (kid l i) lo hi).1 else (kidsS (srW l dep wf f) (evB dep i) (kid l i) lo hi).2.1, (kidsS (srW l dep wf f) (evB dep i) (kid l i) lo hi).2.2)
theorem srW_wor (l : List Nd) (dep : List Int) : ∀ f, srW l dep (wor l) f = srS l dep f
  | 0 => rfl
  | f + 1 => by
    funext i lo hi
    simp only [srW, srS, srW_wor l dep f]
theorem kidsS_cong {rec rec' : Int → Int → Int → Int × List Int} {ev : Bool} {wf wf' : Int → Int} (h : ∀ c lo hi, (∀ x ∈ (rec c lo hi).2, wf' x = wf x) → rec' c lo hi = rec c lo hi) : ∀ (cs : List Int) (lo hi : Int), (∀ x ∈ (kidsS rec ev cs lo hi).2.2, wf' x = wf x) → kidsS rec' ev cs lo hi = kidsS rec ev cs lo hi
  | [], _, _, _ => rfl
  | c :: r, lo, hi, hx => by
    have hc : rec' c lo hi = rec c lo hi := h c lo hi fun x hm => hx x (by
      simp only [kidsS]
      by_cases hcut : (if ev then hi else min hi (rec c lo hi).1) ≤ (if ev then max lo (rec c lo hi).1 else lo)
      · rw [if_pos hcut]; exact hm
      · rw [if_neg hcut]; exact List.mem_append_left _ hm)
    simp only [kidsS] at hx ⊢
    rw [hc]
    by_cases hcut : (if ev then hi else min hi (rec c lo hi).1) ≤ (if ev then max lo (rec c lo hi).1 else lo)
    · rw [if_pos hcut, if_pos hcut]
    · rw [if_neg hcut] at hx
      rw [if_neg hcut, if_neg hcut, kidsS_cong h r _ _ fun x hm => hx x (List.mem_append_right _ hm)]
theorem srW_cong {l : List Nd} {dep : List Int} {wf wf' : Int → Int} : ∀ (f : Nat) (i lo hi : Int), (∀ x ∈ (srW l dep wf f i lo hi).2, wf' x = wf x) → srW l dep wf' f i lo hi = srW l dep wf f i lo hi
  | 0, _, _, _, _ => rfl
  | f + 1, i, lo, hi, hx => by
    simp only [srW] at hx ⊢
    by_cases hl : leafB l i = true
    · rw [if_pos hl] at hx
      rw [if_pos hl, if_pos hl, hx i (by simp)]
    · rw [if_neg hl] at hx
      rw [if_neg hl, if_neg hl, kidsS_cong (fun c lo hi h => srW_cong f c lo hi h) _ _ _ hx]
/-- What a search within bounds says of a value. -/
def Tri (v r lo hi : Int) : Prop := (v ≤ lo → r ≤ lo) ∧ (hi ≤ v → hi ≤ r) ∧ (lo < v → v < hi → r = v)
theorem kidsS_T {rec : Int → Int → Int → Int × List Int} {v : Int → Int} : ∀ (cs : List Int), (∀ c ∈ cs, ∀ lo hi, lo < hi → Tri (v c) (rec c lo hi).1 lo hi) → ∀ lo hi, lo < hi →
    lo ≤ (kidsS rec true cs lo hi).1 ∧ ((∃ c ∈ cs, hi ≤ v c) → hi ≤ (kidsS rec true cs lo hi).1) ∧ ((∀ c ∈ cs, v c < hi) → (∀ c ∈ cs, v c ≤ (kidsS rec true cs lo hi).1) ∧ ((kidsS rec true cs lo hi).1 = lo ∨ ∃ c ∈ cs, (kidsS rec true cs lo hi).1 = v c))
  | [], _, lo, hi, _ => ⟨Int.le_refl _, fun ⟨c, hc, _⟩ => by simp at hc, fun _ => ⟨fun c hc => by simp at hc, .inl rfl⟩⟩
  | c :: r, h, lo, hi, hlt => by
    obtain ⟨t1, t2, t3⟩ := h c (by simp) lo hi hlt
    simp only [kidsS, if_true]
    by_cases hcut : hi ≤ max lo (rec c lo hi).1
    · rw [if_pos hcut]
      refine ⟨by show lo ≤ max lo _; omega, fun _ => hcut, fun hall => ?_⟩
      have := hall c (by simp)
      exfalso
      by_cases e : v c ≤ lo
      · have := t1 e; omega
      · have := t3 (by omega) (by omega); omega
    · rw [if_neg hcut]
      obtain ⟨i1, i2, i3⟩ := kidsS_T r (fun c' hc' => h c' (by simp [hc'])) (max lo (rec c lo hi).1) hi (by omega)
      simp only
      generalize (kidsS rec true r (max lo (rec c lo hi).1) hi).1 = L at *
      refine ⟨by omega, fun ⟨c', hc', hv⟩ => ?_, fun hall => ?_⟩
      · rcases List.mem_cons.1 hc' with rfl | hc'
        · have := t2 hv; omega
        · exact i2 ⟨c', hc', hv⟩
      · obtain ⟨j1, j2⟩ := i3 fun c' hc' => hall c' (by simp [hc'])
        have hvc := hall c (by simp)
        refine ⟨fun c' hc' => ?_, ?_⟩
        · rcases List.mem_cons.1 hc' with rfl | hc'
          · by_cases e : v c' ≤ lo
            · omega
            · have := t3 (by omega) hvc; omega
          · exact j1 c' hc'
        · rcases j2 with e | ⟨c', hc', e⟩
          · by_cases e2 : v c ≤ lo
            · have := t1 e2; exact .inl (by omega)
            · have := t3 (by omega) hvc; exact .inr ⟨c, by simp, by omega⟩
          · exact .inr ⟨c', by simp [hc'], e⟩
theorem kidsS_F {rec : Int → Int → Int → Int × List Int} {v : Int → Int} : ∀ (cs : List Int), (∀ c ∈ cs, ∀ lo hi, lo < hi → Tri (v c) (rec c lo hi).1 lo hi) → ∀ lo hi, lo < hi →
    (kidsS rec false cs lo hi).2.1 ≤ hi ∧ ((∃ c ∈ cs, v c ≤ lo) → (kidsS rec false cs lo hi).2.1 ≤ lo) ∧ ((∀ c ∈ cs, lo < v c) → (∀ c ∈ cs, (kidsS rec false cs lo hi).2.1 ≤ v c) ∧ ((kidsS rec false cs lo hi).2.1 = hi ∨ ∃ c ∈ cs, (kidsS rec false cs lo hi).2.1 = v c))
  | [], _, lo, hi, _ => ⟨Int.le_refl _, fun ⟨c, hc, _⟩ => by simp at hc, fun _ => ⟨fun c hc => by simp at hc, .inl rfl⟩⟩
  | c :: r, h, lo, hi, hlt => by
    obtain ⟨t1, t2, t3⟩ := h c (by simp) lo hi hlt
    simp only [kidsS, if_neg (show ¬ (false = true) by decide)]
    by_cases hcut : min hi (rec c lo hi).1 ≤ lo
    · rw [if_pos hcut]
      refine ⟨by show min hi _ ≤ hi; omega, fun _ => hcut, fun hall => ?_⟩
      have := hall c (by simp)
      exfalso
      by_cases e : hi ≤ v c
      · have := t2 e; omega
      · have := t3 (by omega) (by omega); omega
    · rw [if_neg hcut]
      obtain ⟨i1, i2, i3⟩ := kidsS_F r (fun c' hc' => h c' (by simp [hc'])) lo (min hi (rec c lo hi).1) (by omega)
      simp only
      generalize (kidsS rec false r lo (min hi (rec c lo hi).1)).2.1 = L at *
      refine ⟨by omega, fun ⟨c', hc', hv⟩ => ?_, fun hall => ?_⟩
      · rcases List.mem_cons.1 hc' with rfl | hc'
        · have := t1 hv; omega
        · exact i2 ⟨c', hc', hv⟩
      · obtain ⟨j1, j2⟩ := i3 fun c' hc' => hall c' (by simp [hc'])
        have hvc := hall c (by simp)
        refine ⟨fun c' hc' => ?_, ?_⟩
        · rcases List.mem_cons.1 hc' with rfl | hc'
          · by_cases e : hi ≤ v c'
            · omega
            · have := t3 hvc (by omega); omega
          · exact j1 c' hc'
        · rcases j2 with e | ⟨c', hc', e⟩
          · by_cases e2 : hi ≤ v c
            · have := t2 e2; exact .inl (by omega)
            · have := t3 hvc (by omega); exact .inr ⟨c, by simp, by omega⟩
          · exact .inr ⟨c', by simp [hc'], e⟩
theorem srW_tri {l : List Nd} {dep : List Int} {wf : Int → Int} {vs : List Int} (hT : TF l dep) (hv : ValP l dep wf vs) : ∀ (f i : Nat), i < l.length → l.length - i ≤ f → ∀ lo hi : Int, lo < hi → Tri (vs.getD i 0) (srW l dep wf f i lo hi).1 lo hi
  | 0, i, h1, h2, _, _, _ => by omega
  | f + 1, i, hi, hf, lo, hi', hlt => by
    rw [hv.at_ i hi]
    unfold NV
    simp only [srW]
    by_cases hl : leafB l i = true
    · rw [if_pos hl, if_pos hl]
      exact ⟨fun h => h, fun h => h, fun _ _ => rfl⟩
    · have hne := leaf_ne hl
      rw [if_neg hl, if_neg hl]
      have hk : ∀ c ∈ kid l i, ∀ lo hi, lo < hi → Tri (rd vs c) (srW l dep wf f c lo hi).1 lo hi := fun c hc lo hi h => by
        obtain ⟨h1, h2⟩ := mem_kid hT ‹_› hc
        obtain ⟨m, rfl⟩ := Int.eq_ofNat_of_zero_le (show 0 ≤ c by omega)
        have := srW_tri hT hv f m (by omega) (by omega) lo hi h
        simpa [rd] using this
      cases he : evB dep i with
      | true =>
        simp only [if_true]
        obtain ⟨k1, k2, k3⟩ := kidsS_T (v := rd vs) (kid l i) hk lo hi' hlt
        generalize (kidsS (srW l dep wf f) true (kid l i) lo hi').1 = L at *
        refine ⟨fun h => ?_, fun h => k2 ((maxL_ge hne).1 h), fun h1 h2 => ?_⟩
        · have hall := (maxL_le hne).1 h
          rcases (k3 fun c hc => by have := hall c hc; omega).2 with e | ⟨c, hc, e⟩
          · omega
          · have := hall c hc; omega
        · have hall := (maxL_le hne).1 (Int.le_refl (maxL ((kid l i).map (rd vs))))
          obtain ⟨j1, j2⟩ := k3 fun c hc => by have := hall c hc; omega
          have g1 := (maxL_le hne).2 j1
          rcases j2 with e | ⟨c, hc, e⟩
          · omega
          · have := hall c hc; omega
      | false =>
        simp only [if_neg (show ¬ (false = true) by decide)]
        obtain ⟨k1, k2, k3⟩ := kidsS_F (v := rd vs) (kid l i) hk lo hi' hlt
        generalize (kidsS (srW l dep wf f) false (kid l i) lo hi').2.1 = L at *
        refine ⟨fun h => k2 ((minL_le hne).1 h), fun h => ?_, fun h1 h2 => ?_⟩
        · have hall := (minL_ge hne).1 h
          rcases (k3 fun c hc => by have := hall c hc; omega).2 with e | ⟨c, hc, e⟩
          · omega
          · have := hall c hc; omega
        · have hall := (minL_ge hne).1 (Int.le_refl (minL ((kid l i).map (rd vs))))
          obtain ⟨j1, j2⟩ := k3 fun c hc => by have := hall c hc; omega
          have g1 := (minL_ge hne).2 j1
          rcases j2 with e | ⟨c, hc, e⟩
          · omega
          · have := hall c hc; omega
/-- The search gives the value. -/
theorem search_val {l : List Nd} {dep vs : List Int} (hT : TF l dep) (hv : ValP l dep (wor l) vs) : (srS l dep l.length 0 (-far) far).1 = vs.getD 0 0 := by
  have hn1 := hT.n1
  have h := (srW_tri hT hv l.length 0 (by omega) (by omega) (-far) far (by decide)).2.2
  have hb := val_bd hT hv (lo := -100) (hi := 100) (fun i hi _ => by have := hT.wor i hi; omega) 0 (by omega)
  rw [srW_wor] at h
  exact h (by simp only [far]; omega) (by simp only [far]; omega)
/-- Whatever the other leaves are worth. -/
theorem search_other {l : List Nd} {dep vs us : List Int} {wf : Int → Int} (hT : TF l dep) (hv : ValP l dep (wor l) vs) (hu : ValP l dep wf us) (hw : ∀ x ∈ (srS l dep l.length 0 (-far) far).2, wf x = wor l x) : us.getD 0 0 = vs.getD 0 0 := by
  have hn1 := hT.n1
  have h0 := search_val hT hv
  have hb := val_bd hT hv (lo := -100) (hi := 100) (fun i hi _ => by have := hT.wor i hi; omega) 0 (by omega)
  rw [← srW_wor] at hw h0
  have hc := srW_cong (wf' := wf) l.length 0 (-far) far hw
  obtain ⟨t1, t2, t3⟩ := srW_tri hT hu l.length 0 (by omega) (by omega) (-far) far (by decide)
  rw [show ((0 : Nat) : Int) = 0 from rfl, hc, h0] at t1 t2 t3
  simp only [far] at t1 t2 t3
  by_cases e1 : us.getD 0 0 ≤ -1099511627776
  · have := t1 e1; omega
  · by_cases e2 : 1099511627776 ≤ us.getD 0 0
    · have := t2 e2; omega
    · exact (t3 (by omega) (by omega)).symm
end Go.Proofs.Ytdiljpnfochndaa.HP
/- The other side's effort is 0 if its bound holds whatever the unknown leaves are worth. -/
namespace Go.Proofs.Ytdiljpnfochndaa.HP
theorem zero_F {l : List Nd} {dep : List Int} {tf wf : Int → Int} {es : List Ef} {vs : List Int} {b : Int} (hT : TF l dep) (hE : NeedP l dep false tf es) (hv : ValP l dep wf vs) (ht : ∀ i : Nat, leafB l i = true → tf i = 0 ∨ tf i = 1 ∨ tf i = far)
    (h : ∀ i : Nat, i < l.length → leafB l i = true → wf i < b → tf i = 0) : ∀ j : Nat, j < l.length → vs.getD j 0 < b → (es.getD j (0, [])).1 = 0 := by
  have sE := need_small hT hE ht
  refine tree_ind hT (Q := fun j => vs.getD j 0 < b → (es.getD j (0, [])).1 = 0) fun j hj hk => ?_
  have kE : ∀ c ∈ kid l j, GoodE l c (ed es c).2 ∧ Small l (ed es c) := fun c hc => by obtain ⟨i, rfl, hi, _⟩ := hk c hc; exact sE i hi
  have kD : ∀ c ∈ kid l j, rd vs c < b → (ed es c).1 = 0 := fun c hc => by obtain ⟨i, rfl, hi, h⟩ := hk c hc; exact h
  rw [hE.at_ j hj, hv.at_ j hj]
  unfold NE NV
  by_cases hl : leafB l j = true
  · rw [if_pos hl, if_pos hl]; exact h j hj hl
  · have hne := leaf_ne hl
    rw [if_neg hl, if_neg hl]
    by_cases he : evB dep j = true
    · rw [if_pos he, if_neg (by rw [he]; simp), joinZ fun c hc => ⟨(kE c hc).2.lo, (kE c hc).2.hi⟩]
      intro hlt c hc
      refine kD c hc ?_
      have := (maxL_le hne).1 (Int.le_refl (maxL ((kid l j).map (rd vs)))) c hc
      omega
    · have he' : evB dep j = false := by simpa using he
      rw [if_neg he, if_pos (by rw [he']; rfl), pickZ fun c hc => (kE c hc).2.lo]
      intro hlt
      obtain ⟨c, hc, h2⟩ := (minL_le hne).1 (Int.le_refl (minL ((kid l j).map (rd vs))))
      exact ⟨c, hc, kD c hc (by omega)⟩
end Go.Proofs.Ytdiljpnfochndaa.HP
namespace Go.Proofs.Ytdiljpnfochndaa
open Go Go.RowKit Go.Proofs.Ytdiljpnfochndaa.VW
open Go.Proofs.Ytdiljpnfochndaa.HP (Nd kid wor leafB rd modM modM_bd chM chM_len rounds tameM tameN addKid)
attribute [local irreducible] W Ops
theorem wrap_u (x : Int) : IntKind.u64.wrap x = x % 18446744073709551616 := by
  simp [IntKind.wrap, IntKind.bits, IntKind.signed]
theorem wrap_i {x : Int} (h0 : 0 ≤ x) (h1 : x < 9223372036854775808) : IntKind.i64.wrap x = x := by
  have : x % 18446744073709551616 = x := by omega
  simp [IntKind.wrap, IntKind.bits, IntKind.signed, this]
  omega
theorem mod_c (x n : Int) (w : World) (h0 : 0 < n) (h1 : n < 9223372036854775808) : Calls Try.prog 34 #[.int .i64 x, .int .i64 n] w (Ret fun r w' => r = .int .i64 (modM x n) ∧ w' = w) := by
  refine calls_W (vs := [_, _]) Try.func34 rfl (by kernel_rfl) rfl ?_
  (repeat (first | with_reducible refine W.seq ?_ | with_reducible refine Ops.nil ?_ | with_reducible refine W.region ?_ | refine z_p (kk := ?_) | refine z_a (kk := ?_) | refine z_y (kk := ?_) | refine z_n (kk := ?_) | refine z_u (kk := ?_) | with_reducible refine W.skip ?_ | with_reducible refine W.endb ?_ | with_reducible refine W.block ?_ | refine W.exit rfl ?_ | refine z_l (kk := ?_) | refine z_f (kk := ?_) | refine z_M (kk := ?_) | refine z_m (kk := ?_) | refine z_e (kk := ?_) | refine z_E (kk := ?_) | refine z_d (kk := ?_)))
  refine Ops.cv rfl rfl rfl rfl rfl rfl ?_
  (repeat (first | with_reducible refine W.seq ?_ | with_reducible refine Ops.nil ?_ | with_reducible refine W.region ?_ | refine z_p (kk := ?_) | refine z_a (kk := ?_) | refine z_y (kk := ?_) | refine z_n (kk := ?_) | refine z_u (kk := ?_) | with_reducible refine W.skip ?_ | with_reducible refine W.endb ?_ | with_reducible refine W.block ?_ | refine W.exit rfl ?_ | refine z_l (kk := ?_) | refine z_f (kk := ?_) | refine z_M (kk := ?_) | refine z_m (kk := ?_) | refine z_e (kk := ?_) | refine z_E (kk := ?_) | refine z_d (kk := ?_)))
  refine Ops.cv rfl rfl rfl rfl rfl rfl ?_
  have hn : IntKind.u64.wrap n = n := by rw [wrap_u]; omega
  refine Ops.remK rfl rfl rfl rfl rfl (by rw [hn]; omega) ?_
  refine Ops.cv rfl rfl rfl rfl rfl rfl ?_
  (repeat (first | with_reducible refine W.seq ?_ | with_reducible refine Ops.nil ?_ | with_reducible refine W.region ?_ | refine z_p (kk := ?_) | refine z_a (kk := ?_) | refine z_y (kk := ?_) | refine z_n (kk := ?_) | refine z_u (kk := ?_) | with_reducible refine W.skip ?_ | with_reducible refine W.endb ?_ | with_reducible refine W.block ?_ | refine W.exit rfl ?_ | refine z_l (kk := ?_) | refine z_f (kk := ?_) | refine z_M (kk := ?_) | refine z_m (kk := ?_) | refine z_e (kk := ?_) | refine z_E (kk := ?_) | refine z_d (kk := ?_)))
  refine W.fret rfl ⟨?_, rfl⟩
  have hb := modM_bd x h0
  show Value.int .i64 _ = _
  rw [hn, wrap_u, Int.tmod_eq_emod_of_nonneg (Int.emod_nonneg _ (by omega))]
  exact congrArg _ (wrap_i hb.1 (Int.lt_trans hb.2 h1))
def pickL (p : Nat → Bool) (n : Nat) : List Int := ((List.range n).filter p).map fun (i : Nat) => (i : Int)
theorem pickL_succ (p : Nat → Bool) (n : Nat) : pickL p (n + 1) = pickL p n ++ if p n then [(n : Int)] else [] := by
  unfold pickL
  rw [List.range_succ, List.filter_append, List.map_append]
  congr 1
  by_cases h : p n <;> simp [h]
theorem pickL_len (p : Nat → Bool) (n : Nat) : (pickL p n).length ≤ n := by
  unfold pickL
  rw [List.length_map]
  exact Nat.le_trans (List.length_filter_le _ _) (by simp)
theorem leafB_len (l : List Nd) (i : Int) : leafB l i = (((kid l i).length : Int) == 0) := by
  unfold leafB
  cases kid l i with
  | nil => rfl
  | cons a r => simp; omega
def someP (l : List Nd) (os : List Int) (i : Nat) : Bool := leafB l i && decide (i < os.length) && (modM (os.getD i 0) 2 == 1)
theorem some_c {w : World} {v ov : Value} {l : List Nd} {os : List Int} (hT : TreeM w v l) (hn : l.length ≤ 60) (ho : SlI w ov os) :
    Calls Try.prog 36 #[v, ov] w (Ret fun r w' => FInv w w' r (pickL (someP l os) l.length)) := by
  obtain ⟨A, c, rfl⟩ := hT.sl
  have hol := Sl.len ho
  obtain ⟨A2, c2, rfl⟩ := Sl.sl ho
  refine calls_W (vs := [_, _]) Try.func36 rfl (by kernel_rfl) rfl ?_
  (repeat (first | with_reducible refine W.seq ?_ | with_reducible refine Ops.nil ?_ | with_reducible refine W.region ?_ | refine z_p (kk := ?_) | refine z_a (kk := ?_) | refine z_y (kk := ?_) | refine z_n (kk := ?_) | refine z_u (kk := ?_) | with_reducible refine W.skip ?_ | with_reducible refine W.endb ?_ | with_reducible refine W.block ?_ | refine W.exit rfl ?_ | refine z_l (kk := ?_) | refine z_f (kk := ?_) | refine z_M (kk := ?_) | refine z_m (kk := ?_) | refine z_e (kk := ?_) | refine z_E (kk := ?_) | refine z_d (kk := ?_)))
  refine W.loop (fun m ρ w3 => ∃ (j : Nat) (lv : Value), m = l.length - j ∧ j ≤ l.length ∧ ρ = [(0, .slice A l.length c), (1, .slice A2 os.length c2), (5, lv), (6, .int .i64 j)] ∧ FInv w w3 lv (pickL (someP l os) j))
    ⟨_, _, ⟨0, _, rfl, Nat.zero_le _, rfl, FInv.nil (Below.refl _ _)⟩, (by repeat (first | exact trivial | refine And.intro rfl ?_))⟩ ?_
  rintro m ρ w3 ⟨j, lv, rfl, hj, rfl, hI⟩
  have hb3 := hI.bel
  have ho3 := Sl.below ho hb3
  have hpl := pickL_len (someP l os) j
  (repeat (first | with_reducible refine W.seq ?_ | with_reducible refine Ops.nil ?_ | with_reducible refine W.region ?_ | refine z_p (kk := ?_) | refine z_a (kk := ?_) | refine z_y (kk := ?_) | refine z_n (kk := ?_) | refine z_u (kk := ?_) | with_reducible refine W.skip ?_ | with_reducible refine W.endb ?_ | with_reducible refine W.block ?_ | refine W.exit rfl ?_ | refine z_l (kk := ?_) | refine z_f (kk := ?_) | refine z_M (kk := ?_) | refine z_m (kk := ?_) | refine z_e (kk := ?_) | refine z_E (kk := ?_) | refine z_d (kk := ?_)))
  refine W.cond rfl (fun hc => ?_) (fun hc => ?_)
  · have hlt : j < l.length := by simp at hc; omega
    (repeat (first | with_reducible refine W.seq ?_ | with_reducible refine Ops.nil ?_ | with_reducible refine W.region ?_ | refine z_p (kk := ?_) | refine z_a (kk := ?_) | refine z_y (kk := ?_) | refine z_n (kk := ?_) | refine z_u (kk := ?_) | with_reducible refine W.skip ?_ | with_reducible refine W.endb ?_ | with_reducible refine W.block ?_ | refine W.exit rfl ?_ | refine z_l (kk := ?_) | refine z_f (kk := ?_) | refine z_M (kk := ?_) | refine z_m (kk := ?_) | refine z_e (kk := ?_) | refine z_E (kk := ?_) | refine z_d (kk := ?_)))
    refine Ops.rdK rfl rfl rfl rfl rfl rfl rfl rfl rfl rfl rfl rfl rfl rfl rfl hT hb3 (by omega) (by omega) (fun cv p q hcv => ?_)
    obtain ⟨Ac, cc, rfl⟩ := Sl.sl hcv
    refine Ops.cut (fun ρ w' => ∃ b : Bool, ρ = [(0, .slice A l.length c), (1, .slice A2 os.length c2), (5, lv), (6, .int .i64 j), (33, .bool b)] ∧ w' = w3 ∧ b = someP l os j) ?_ ?_
    · (repeat' (first | with_reducible refine W.seq ?_ | with_reducible refine Ops.nil ?_ | with_reducible refine W.region ?_ | refine z_p (kk := ?_) | refine z_a (kk := ?_) | refine z_y (kk := ?_) | refine z_n (kk := ?_) | refine z_u (kk := ?_) | with_reducible refine W.skip ?_ | with_reducible refine W.endb ?_ | with_reducible refine W.block ?_ | refine W.exit rfl ?_ | refine z_l (kk := ?_) | refine z_f (kk := ?_) | refine z_M (kk := ?_) | refine z_m (kk := ?_) | refine z_e (kk := ?_) | refine z_E (kk := ?_) | refine z_d (kk := ?_) | refine Ops.gdT rfl rfl rfl rfl (fun _ => ?_) (fun _ => ?_) | refine Ops.gdF rfl rfl rfl rfl (fun _ => ?_) (fun _ => ?_) | refine Ops.callS rfl rfl rfl rfl rfl (mod_c _ _ _ (by decide) (by decide)) ?_ | (refine Ops.rdSg (enc := Value.int .i64) (z := (0 : Int)) rfl rfl rfl rfl rfl rfl rfl rfl rfl rfl rfl rfl rfl rfl ho3 (by omega) (by rename_i hh; simp at hh; omega) (fun p => ?_))))
      all_goals refine W.endl ⟨_, ⟨_, rfl, rfl, ?_⟩, (by repeat (first | exact trivial | refine And.intro rfl ?_))⟩
      all_goals clear ho ho3 hI hT hcv
      · rename_i h1 h2
        unfold someP
        rw [leafB_len, h1, show decide (j < os.length) = true by simpa using h2]
        rfl
      · rename_i h1 h2
        unfold someP
        rw [leafB_len, h1, show decide (j < os.length) = false by simpa using h2]
        rfl
      · rename_i h1
        unfold someP
        rw [leafB_len, h1]
        rfl
    · rintro ρ w4 ⟨b, rfl, rfl, hb⟩
      (repeat (first | with_reducible refine W.seq ?_ | with_reducible refine Ops.nil ?_ | with_reducible refine W.region ?_ | refine z_p (kk := ?_) | refine z_a (kk := ?_) | refine z_y (kk := ?_) | refine z_n (kk := ?_) | refine z_u (kk := ?_) | with_reducible refine W.skip ?_ | with_reducible refine W.endb ?_ | with_reducible refine W.block ?_ | refine W.exit rfl ?_ | refine z_l (kk := ?_) | refine z_f (kk := ?_) | refine z_M (kk := ?_) | refine z_m (kk := ?_) | refine z_e (kk := ?_) | refine z_E (kk := ?_) | refine z_d (kk := ?_)))
      have hs := pickL_succ (someP l os) j
      rw [← hb] at hs
      refine W.cond rfl (fun hc2 => ?_) (fun hc2 => ?_)
      · rw [hc2, if_pos rfl] at hs
        (repeat (first | with_reducible refine W.seq ?_ | with_reducible refine Ops.nil ?_ | with_reducible refine W.region ?_ | refine z_p (kk := ?_) | refine z_a (kk := ?_) | refine z_y (kk := ?_) | refine z_n (kk := ?_) | refine z_u (kk := ?_) | with_reducible refine W.skip ?_ | with_reducible refine W.endb ?_ | with_reducible refine W.block ?_ | refine W.exit rfl ?_ | refine z_l (kk := ?_) | refine z_f (kk := ?_) | refine z_M (kk := ?_) | refine z_m (kk := ?_) | refine z_e (kk := ?_) | refine z_E (kk := ?_) | refine z_d (kk := ?_)))
        refine Ops.push rfl rfl rfl rfl rfl rfl rfl rfl rfl rfl rfl rfl (fun _ => rfl) rfl hI.own (by omega) (fun lv' p w5 ho5 k5 hn5 => ?_)
        have hI5 := hI.push ho5 k5 hn5
        rw [← hs] at hI5
        (repeat (first | with_reducible refine W.seq ?_ | with_reducible refine Ops.nil ?_ | with_reducible refine W.region ?_ | refine z_p (kk := ?_) | refine z_a (kk := ?_) | refine z_y (kk := ?_) | refine z_n (kk := ?_) | refine z_u (kk := ?_) | with_reducible refine W.skip ?_ | with_reducible refine W.endb ?_ | with_reducible refine W.block ?_ | refine W.exit rfl ?_ | refine z_l (kk := ?_) | refine z_f (kk := ?_) | refine z_M (kk := ?_) | refine z_m (kk := ?_) | refine z_e (kk := ?_) | refine z_E (kk := ?_) | refine z_d (kk := ?_)))
        exact W.endl ⟨_, _, ⟨⟨j + 1, _, rfl, by omega, rfl, hI5⟩, by omega⟩, (by repeat (first | exact trivial | refine And.intro rfl ?_))⟩
      · rw [hc2, if_neg (by simp), List.append_nil] at hs
        rw [← hs] at hI
        (repeat (first | with_reducible refine W.seq ?_ | with_reducible refine Ops.nil ?_ | with_reducible refine W.region ?_ | refine z_p (kk := ?_) | refine z_a (kk := ?_) | refine z_y (kk := ?_) | refine z_n (kk := ?_) | refine z_u (kk := ?_) | with_reducible refine W.skip ?_ | with_reducible refine W.endb ?_ | with_reducible refine W.block ?_ | refine W.exit rfl ?_ | refine z_l (kk := ?_) | refine z_f (kk := ?_) | refine z_M (kk := ?_) | refine z_m (kk := ?_) | refine z_e (kk := ?_) | refine z_E (kk := ?_) | refine z_d (kk := ?_)))
        exact W.endl ⟨_, _, ⟨⟨j + 1, _, rfl, by omega, rfl, hI⟩, by omega⟩, (by repeat (first | exact trivial | refine And.intro rfl ?_))⟩
  · have hlt : j = l.length := by simp at hc; omega
    subst hlt
    (repeat (first | with_reducible refine W.seq ?_ | with_reducible refine Ops.nil ?_ | with_reducible refine W.region ?_ | refine z_p (kk := ?_) | refine z_a (kk := ?_) | refine z_y (kk := ?_) | refine z_n (kk := ?_) | refine z_u (kk := ?_) | with_reducible refine W.skip ?_ | with_reducible refine W.endb ?_ | with_reducible refine W.block ?_ | refine W.exit rfl ?_ | refine z_l (kk := ?_) | refine z_f (kk := ?_) | refine z_M (kk := ?_) | refine z_m (kk := ?_) | refine z_e (kk := ?_) | refine z_E (kk := ?_) | refine z_d (kk := ?_)))
    exact W.fret rfl hI
end Go.Proofs.Ytdiljpnfochndaa
namespace Go.Proofs.Ytdiljpnfochndaa
open Go Go.RowKit Go.Proofs.Ytdiljpnfochndaa.VW
open Go.Proofs.Ytdiljpnfochndaa.HP (Nd kid wor leafB rd modM modM_bd chM chM_len rounds tameM tameN addKid tameM_len tameM_at)
attribute [local irreducible] W Ops
/-- Slices of numbers of the call's own, each in its own block, in a slice of the call's own. -/
structure LL (w0 w : World) (ov : Value) (c : List (List Int)) (svs : List Value) : Prop where
  bel : Below w0.heap.size w0 w
  ge : ∀ k, ov.ownBlock = some k → w0.heap.size ≤ k
  row : w.ownsRow 0 24 1 ov c.length svs
  own : ∀ j, j < c.length → w.ownsRow 0 3 1 (svs.getD j undef) (c.getD j []).length ((c.getD j []).map (Value.int .i64))
  sep : ∀ j, j < c.length → ∀ k, (svs.getD j undef).ownBlock = some k → w0.heap.size ≤ k ∧ ov.ownBlock ≠ some k
  two : ∀ j j', j < c.length → j' < c.length → j ≠ j' → ∀ k, (svs.getD j undef).ownBlock = some k → (svs.getD j' undef).ownBlock ≠ some k
theorem LL.len {w0 w : World} {ov : Value} {c : List (List Int)} {svs : List Value} (h : LL w0 w ov c svs) : svs.length = c.length := by have := h.row.1; omega
theorem LL.kp {w0 w w' : World} {ov : Value} {c : List (List Int)} {svs : List Value} {S : Nat → Prop} (h : LL w0 w ov c svs) (k : Kp S w w') (hs : ∀ i, S i → w0.heap.size ≤ i ∧ ov.ownBlock ≠ some i ∧ ∀ j, j < c.length → (svs.getD j undef).ownBlock ≠ some i) : LL w0 w' ov c svs :=
  ⟨Below.at_ h.bel k (fun i hi => (hs i hi).1), h.ge, own_kp h.row k (fun i hi e => (hs i e).2.1 hi), fun j hj => own_kp (h.own j hj) k (fun i hi e => (hs i e).2.2 j hj hi), h.sep, h.two⟩
theorem LL.fresh {w0 w w' : World} {ov : Value} {c : List (List Int)} {svs : List Value} {S : Nat → Prop} (h : LL w0 w ov c svs) (k : Kp S w w') (hs : ∀ i, S i → w.heap.size ≤ i) : LL w0 w' ov c svs :=
  h.kp k fun i hi => ⟨by have := h.bel.size; have := hs i hi; omega, fun e => by have := (h.row.lt i e).2; have := hs i hi; omega, fun j hj e => by have := ((h.own j hj).lt i e).2; have := hs i hi; omega⟩
/-- An empty one more. -/
theorem LL.pushNil {w0 w w' : World} {ov ov' : Value} {c : List (List Int)} {svs : List Value} (h : LL w0 w ov c svs) (ho : w'.ownsRow 0 24 1 ov' (c.length + 1) (svs ++ [.slice none 0 0])) (k : Kp (fun i => ov.ownBlock = some i) w w')
    (hn : ∀ i, ov'.ownBlock = some i → ov.ownBlock = some i ∨ w.heap.size ≤ i) : LL w0 w' ov' (c ++ [[]]) (svs ++ [.slice none 0 0]) := by
  have hl := h.len
  have hg : ∀ j, j < c.length → (svs ++ [Value.slice none 0 0]).getD j undef = svs.getD j undef ∧ (c ++ [[]]).getD j [] = c.getD j [] := fun j hj => ⟨app_getD (by omega), app_getD hj⟩
  have hlast : (svs ++ [Value.slice none 0 0]).getD c.length undef = .slice none 0 0 ∧ (c ++ [[]]).getD c.length [] = [] := ⟨app_last hl.symm, app_last rfl⟩
  have hb : ∀ i, ov'.ownBlock = some i → w0.heap.size ≤ i := fun i hi => by
    rcases hn i hi with e | e
    · exact h.ge i e
    · have := h.bel.size; omega
  refine ⟨Below.at_ h.bel k (fun i hi => h.ge i hi), hb, by simpa using ho, fun j hj => ?_, fun j hj i hi => ?_, fun j j' hj hj' hne i hi => ?_⟩
  · simp at hj
    by_cases e : j = c.length
    · subst e
      rw [hlast.1, hlast.2]
      exact own_nil _ _ _
    · have hj' : j < c.length := by omega
      rw [(hg j hj').1, (hg j hj').2]
      exact own_kp (h.own j hj') k (fun i hi e => (h.sep j hj' i hi).2 e)
  · simp at hj
    by_cases e : j = c.length
    · subst e
      rw [hlast.1] at hi
      simp [Value.ownBlock] at hi
    · have hj' : j < c.length := by omega
      rw [(hg j hj').1] at hi
      refine ⟨(h.sep j hj' i hi).1, fun e => ?_⟩
      rcases hn i e with e2 | e2
      · exact (h.sep j hj' i hi).2 e2
      · have := ((h.own j hj').lt i hi).2; omega
  · simp at hj hj'
    by_cases e : j = c.length
    · subst e
      rw [hlast.1] at hi
      simp [Value.ownBlock] at hi
    · by_cases e' : j' = c.length
      · subst e'
        rw [hlast.1]
        simp [Value.ownBlock]
      · rw [(hg j (by omega)).1] at hi
        rw [(hg j' (by omega)).1]
        exact h.two j j' (by omega) (by omega) hne i hi
/-- A number more in one of them. -/
theorem LL.grow {w0 w w1 w' : World} {ov lv' : Value} {c : List (List Int)} {svs : List Value} {p : Nat} {x : Int} (h : LL w0 w ov c svs) (hp : p < c.length)
    (ho : w1.ownsRow 0 3 1 lv' ((c.getD p []).length + 1) ((c.getD p []).map (Value.int .i64) ++ [.int .i64 x])) (k : Kp (fun i => (svs.getD p undef).ownBlock = some i) w w1)
    (hn : ∀ i, lv'.ownBlock = some i → (svs.getD p undef).ownBlock = some i ∨ w.heap.size ≤ i) (ho' : w'.ownsRow 0 24 1 ov c.length (svs.set p lv')) (k' : Kp (fun i => ov.ownBlock = some i) w1 w') : LL w0 w' ov (c.set p (c.getD p [] ++ [x])) (svs.set p lv') := by
  have hl := h.len
  have hsep : ∀ i, lv'.ownBlock = some i → w0.heap.size ≤ i ∧ ov.ownBlock ≠ some i := fun i hi => by
    rcases hn i hi with e | e
    · exact h.sep p hp i e
    · have := h.bel.size; exact ⟨by omega, fun e2 => by have := (h.row.lt i e2).2; omega⟩
  refine ⟨Below.at_ (Below.at_ h.bel k (fun i hi => (h.sep p hp i hi).1)) k' (fun i hi => h.ge i hi), h.ge, by simpa using ho', fun j hj => ?_, fun j hj i hi => ?_, fun j j' hj hj' hne i hi => ?_⟩
  · simp at hj
    by_cases e : p = j
    · subst e
      rw [lgetD_set_eq (by omega), lgetD_set_eq (by omega)]
      have := own_kp ho k' (fun i hi e => (hsep i hi).2 e)
      simpa using this
    · rw [lgetD_set_ne e, lgetD_set_ne e]
      exact own_kp (own_kp (h.own j hj) k (fun i hi e2 => h.two p j hp hj e i e2 hi)) k' (fun i hi e2 => (h.sep j hj i hi).2 e2)
  · simp at hj
    by_cases e : p = j
    · subst e
      rw [lgetD_set_eq (by omega)] at hi
      exact hsep i hi
    · rw [lgetD_set_ne e] at hi
      exact h.sep j hj i hi
  · simp at hj hj'
    by_cases e : p = j
    · subst e
      rw [lgetD_set_eq (by omega)] at hi
      rw [lgetD_set_ne hne]
      rcases hn i hi with e2 | e2
      · exact h.two p j' hp hj' hne i e2
      · intro e3; have := ((h.own j' hj').lt i e3).2; omega
    · rw [lgetD_set_ne e] at hi
      by_cases e' : p = j'
      · subst e'
        rw [lgetD_set_eq (by omega)]
        intro e3
        rcases hn i e3 with e4 | e4
        · exact h.two j p hj hp hne i hi e4
        · have := ((h.own j hj).lt i hi).2; omega
      · rw [lgetD_set_ne e']
        exact h.two j j' hj hj' hne i hi
end Go.Proofs.Ytdiljpnfochndaa
