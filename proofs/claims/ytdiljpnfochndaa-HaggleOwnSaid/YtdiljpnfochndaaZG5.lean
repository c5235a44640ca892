/- A part of the walk: what this seat's statements share. -/
import Derived.Test.YtdiljpnfochndaaZG3
import Derived.Test.YtdiljpnfochndaaZG4
import Derived.Test.YtdiljpnfochndaaZG2
set_option linter.unusedVariables false
set_option linter.unusedSimpArgs false
set_option linter.unusedSectionVars false
namespace Go.Proofs.Ytdiljpnfochndaa
open Go Go.RowKit Go.Proofs.Ytdiljpnfochndaa.VW
open Go.Proofs.Ytdiljpnfochndaa.HP (Nd kid wor leafB rd evB TF far Ef ed pickF joinF NE NeedP GoodE gameOf gameOf_TF)
attribute [local irreducible] W Ops
theorem pick_ne {es : List Ef} : ∀ (cs : List Int) (a : Ef), (∀ c ∈ cs, (ed es c).1 < far → (ed es c).2 ≠ []) → (a.1 < far → a.2 ≠ []) → (cs.foldl (pickF es) a).1 < far → (cs.foldl (pickF es) a).2 ≠ []
  | [], a, _, ha, h => ha h
  | c :: r, a, hc, ha, h => by
    refine pick_ne r (pickF es a c) (fun x hx => hc x (by simp [hx])) ?_ h
    unfold pickF
    split
    · exact hc c (by simp)
    · exact ha
theorem join_pre {es : List Ef} : ∀ (cs : List Int) (a : Ef), (∀ c ∈ cs, 0 ≤ (ed es c).1) → a.1 ≤ far → a.1 ≤ (cs.foldl (joinF es) a).1 ∧ a.2.length ≤ (cs.foldl (joinF es) a).2.length
  | [], a, _, _ => ⟨by simp, by simp⟩
  | c :: r, a, hc, ha => by
    have h := join_pre r (joinF es a c) (fun x hx => hc x (by simp [hx])) (by simp only [joinF]; omega)
    have h0 := hc c (by simp)
    simp only [joinF, List.length_append] at h
    simp only [List.foldl_cons, joinF]
    omega
theorem NE_ne {l : List Nd} {dep : List Int} {mx : Bool} {lf : Int → Int} {es : List Ef} {j : Int} (h0 : ∀ c ∈ kid l j, 0 ≤ (ed es c).1) (hc : ∀ c ∈ kid l j, (ed es c).1 < far → (ed es c).2 ≠ []) (h : (NE l dep mx lf es j).1 < far) : (NE l dep mx lf es j).2 ≠ [] := by
  unfold NE at h ⊢
  split at h
  · rename_i hl; rw [if_pos hl]; simp
  · rename_i hl
    rw [if_neg hl]
    split at h
    · rename_i he
      rw [if_pos he]
      exact pick_ne _ _ hc (fun h => by simp at h) h
    · rename_i he
      rw [if_neg he]
      cases hk : kid l j with
      | nil => unfold leafB at hl; rw [hk] at hl; simp at hl
      | cons c r =>
        rw [hk] at h hc h0
        simp only [List.foldl_cons] at h ⊢
        have hp := join_pre r (joinF es (0, []) c) (fun x hx => h0 x (by simp [hx])) (by simp only [joinF]; omega)
        have h1 := h0 c (by simp)
        simp only [joinF] at hp h ⊢
        have hcl : (ed es c).1 < far := by
          have := hp.1
          omega
        have hne := hc c (by simp) hcl
        intro e
        have h2 := hp.2
        rw [e] at h2
        simp at h2
        exact hne h2
theorem NeedP.ne {l : List Nd} {dep : List Int} {mx : Bool} {lf : Int → Int} {es : List Ef} (hT : TF l dep) (hN : NeedP l dep mx lf es) (h0 : ∀ i : Nat, leafB l i = true → 0 ≤ lf i ∧ lf i ≤ far) : ∀ j : Nat, j < l.length → (0 ≤ (es.getD j (0, [])).1 ∧ (es.getD j (0, [])).1 ≤ far) ∧ ((es.getD j (0, [])).1 < far → (es.getD j (0, [])).2 ≠ []) := by
  have key : ∀ d j : Nat, l.length - j = d → j < l.length → (0 ≤ (es.getD j (0, [])).1 ∧ (es.getD j (0, [])).1 ≤ far) ∧ ((es.getD j (0, [])).1 < far → (es.getD j (0, [])).2 ≠ []) := by
    intro d
    induction d using Nat.strongRecOn with
    | _ d ih =>
      intro j hd hj
      have hk : ∀ c ∈ kid l j, (0 ≤ (ed es c).1 ∧ (ed es c).1 ≤ far) ∧ ((ed es c).1 < far → (ed es c).2 ≠ []) := fun c hc => by
        obtain ⟨h1, h2⟩ := Go.Proofs.Ytdiljpnfochndaa.HP.mem_kid hT hj hc
        exact ih (l.length - c.toNat) (by omega) c.toNat rfl (by omega)
      rw [hN.at_ j hj]
      exact ⟨Go.Proofs.Ytdiljpnfochndaa.HP.NE_bd (h0 j) fun c hc => (hk c hc).1, NE_ne (fun c hc => (hk c hc).1.1) fun c hc => (hk c hc).2⟩
  exact fun j hj => key _ j rfl hj
theorem proved_c {w : World} {g : Nat} {l : List Nd} {dep : List Int} {fv : Value} {lf : Int → Int} {mx : Bool} (hG : Game w g l dep) (hT : TF l dep) (hf : Clo w fv lf (fun i => 0 ≤ i ∧ i < l.length ∧ leafB l i = true))
    (hlf : ∀ i : Nat, leafB l i = true → 0 ≤ lf i ∧ lf i ≤ far) :
    Calls Try.prog 57 #[.pointer (some ⟨g, 0, none⟩), .bool mx, fv] w (Ret fun r w' => Below w.heap.size w w' ∧ ∃ es, NeedP l dep mx lf es ∧ GoodE l 0 (es.getD 0 (0, [])).2 ∧
      ((far ≤ (es.getD 0 (0, [])).1 ∧ r = .tuple #[.slice none 0 0, .int .i64 6]) ∨ ((es.getD 0 (0, [])).1 < far ∧ ∃ v, r = .tuple #[v, .int .i64 0] ∧ FInv w w' v ((es.getD 0 (0, [])).2.mergeSort fun x y => decide (x ≤ y))))) := by
  refine calls_W (vs := [_, _, _]) Try.func57 rfl (by kernel_rfl) rfl ?_
  (repeat (first | with_reducible refine W.seq ?_ | with_reducible refine Ops.nil ?_ | with_reducible refine W.region ?_ | refine z_p (kk := ?_)))
  refine Ops.call rfl rfl rfl rfl rfl (need_c hG hT hf hlf) (fun r w1 hR => ?_)
  obtain ⟨hb1, es, lv, hN, hGd, rfl, hI⟩ := hR
  generalize hem : (es.getD 0 (0, [])).1 = em at *
  generalize hel : (es.getD 0 (0, [])).2 = el at *
  have hne := NeedP.ne hT hN hlf 0 (by have := hT.n1; omega)
  rw [hem, hel] at hne
  obtain ⟨Al, cl, hlv⟩ := Sl.sl hI.sl
  have hone : lv.oneCell' = true := by rw [hlv]; rfl
  have hll := hGd.len
  have hn60 := hT.n60
  refine Ops.alloc rfl rfl rfl rfl (fun w2 b hM => ?_)
  have hbe := hM.r_eq
  refine Ops.st2 rfl rfl rfl rfl rfl rfl rfl hone hM.at_ (fun w3 hu => ?_)
  have hI3 : FInv w w3 lv el := (hI.kp hM.kp (fun i e => e.elim)).kp hu.kp (fun i hi => ⟨by have := hb1.size; omega, fun e => by have := (hI.own.lt i e).2; omega⟩)
  have hB3 := hu.blk
  (repeat (first | with_reducible refine W.seq ?_ | with_reducible refine Ops.nil ?_ | with_reducible refine W.region ?_ | refine z_p (kk := ?_) | refine z_f (kk := ?_) | refine z_d (kk := ?_)))
  refine W.cond rfl (fun hc => ?_) (fun hc => ?_)
  · (repeat (first | with_reducible refine W.seq ?_ | with_reducible refine Ops.nil ?_ | with_reducible refine W.region ?_ | refine z_p (kk := ?_)))
    exact W.fret rfl ⟨hI3.bel, es, hN, hel ▸ hGd, .inl ⟨by rw [hem]; simpa using hc, rfl⟩⟩
  · have hlt : em < far := by simpa using hc
    have hp : 0 < el.length := List.length_pos_iff.2 (hne.2 hlt)
    (repeat (first | with_reducible refine W.seq ?_ | with_reducible refine W.region ?_ | with_reducible refine W.skip ?_ | refine z_f (kk := ?_) | refine z_d (kk := ?_)))
    refine Ops.call rfl rfl rfl rfl rfl (sort_c hI3.own hp (by omega)) (fun r w4 hR => ?_)
    obtain ⟨rfl, ho4, k4⟩ := hR
    have hB4 := hB3.kp k4 (fun e => by have := (hI.own.lt b e).2; omega)
    (repeat (first | with_reducible refine W.seq ?_ | with_reducible refine Ops.nil ?_ | with_reducible refine W.region ?_ | refine z_p (kk := ?_) | refine z_f (kk := ?_) | refine z_d (kk := ?_)))
    refine W.fret rfl ⟨Below.at_ hI3.bel k4 (fun i hi => hI3.ge i hi), es, hN, hel ▸ hGd, .inr ⟨by rw [hem]; exact hlt, lv, rfl, ⟨Below.at_ hI3.bel k4 (fun i hi => hI3.ge i hi), ?_, hI3.ge⟩⟩⟩
    rw [hel, List.length_mergeSort]
    exact ho4
def proofF (l : List Nd) (b i : Int) : Int := costV (decide (b ≤ wor l i))
def refuteF (l : List Nd) (b i : Int) : Int := costV (decide (wor l i ≤ b))
theorem costV_bd (b : Bool) : 0 ≤ costV b ∧ costV b ≤ far := by cases b <;> decide
/-- What Proof and Refute give. -/
def ProvedR (l : List Nd) (mx : Bool) (lf : Int → Int) (b : Int) (w w' : World) (r : Value) : Prop :=
  (if -1000 ≤ b ∧ b ≤ 1000 then gameOf l else none).elim (r = .tuple #[.slice none 0 0, .int .i64 2]) fun dep => ∃ es, NeedP l dep mx lf es ∧ GoodE l 0 (es.getD 0 (0, [])).2 ∧
    ((far ≤ (es.getD 0 (0, [])).1 ∧ r = .tuple #[.slice none 0 0, .int .i64 6]) ∨ ((es.getD 0 (0, [])).1 < far ∧ ∃ v, r = .tuple #[v, .int .i64 0] ∧ FInv w w' v ((es.getD 0 (0, [])).2.mergeSort fun x y => decide (x ≤ y))))
theorem proof_c {w : World} {v : Value} {l : List Nd} {b : Int} (hT : TreeM w v l) (hl : l.length ≤ 9223372036854775807) :
    Calls Try.prog 18 #[v, .int .i64 b] w (Ret fun r w' => Below w.heap.size w w' ∧ ProvedR l true (proofF l b) b w w' r) := by
  refine calls_W (vs := [_, _]) Try.func18 rfl (by kernel_rfl) rfl ?_
  (repeat (first | with_reducible refine W.seq ?_ | with_reducible refine W.region ?_))
  refine Ops.box rfl rfl rfl rfl (fun w1 bb hM1 => ?_)
  have hb1 : Below w.heap.size w w1 := hM1.kp.below (Nat.le_refl _) (fun _ _ e => e)
  (repeat (first | with_reducible refine W.seq ?_ | with_reducible refine Ops.nil ?_ | with_reducible refine W.region ?_ | refine z_p (kk := ?_)))
  refine Ops.call rfl rfl rfl rfl rfl (newGame_c (hT.below hb1) hl) (fun r w2 hR => ?_)
  obtain ⟨hb2, hR⟩ := hR
  have hBB2 : Blk w2 bb #[.int .i64 b] 3 := Blk.kp hM1.at_ (Kp.of_below (S := fun _ => False) hb2) (fun e => e)
  have hb02 := hb1.trans (hb2.mono hb1.size)
  cases hg : gameOf l with
  | none =>
    rw [hg] at hR
    obtain ⟨p, hp1, rfl⟩ := hR
    (repeat (first | refine z_p (kk := ?_)))
    refine Ops.alloc rfl rfl rfl rfl (fun w3 g6 hM3 => ?_)
    refine Ops.st rfl rfl rfl rfl rfl rfl hp1 hM3.at_ (by decide) (fun w4 hu => ?_)
    have k4 := hM3.kp.trans hu.kp
    have hb04 : Below w.heap.size w w4 := Below.at_ hb02 k4 (fun i hi => by rcases hi with hi | hi; exact hi.elim; have := hM3.r_eq; have := hb02.size; omega)
    (repeat (first | with_reducible refine W.seq ?_ | with_reducible refine Ops.nil ?_ | with_reducible refine W.region ?_ | refine z_p (kk := ?_) | refine z_n (kk := ?_)))
    refine W.cond rfl (fun hc => ?_) (fun hc => ?_)
    · (repeat (first | with_reducible refine W.seq ?_ | with_reducible refine Ops.nil ?_ | with_reducible refine W.region ?_ | refine z_p (kk := ?_)))
      exact W.fret rfl ⟨hb04, by simp only [ProvedR, hg, ite_self]; rfl⟩
    · simp at hc
  | some dep =>
    rw [hg] at hR
    obtain ⟨g, rfl, hgs, hG⟩ := hR
    (repeat (first | refine z_p (kk := ?_)))
    refine Ops.alloc rfl rfl rfl rfl (fun w3 g6 hM3 => ?_)
    refine Ops.st rfl rfl rfl rfl rfl rfl rfl hM3.at_ (by decide) (fun w4 hu => ?_)
    have k4 := hM3.kp.trans hu.kp
    have hb24 : Below w2.heap.size w2 w4 := Below.at_ (Below.refl _ _) k4 (fun i hi => by rcases hi with hi | hi; exact hi.elim; have := hM3.r_eq; omega)
    have hb04 : Below w.heap.size w w4 := hb02.trans (hb24.mono hb02.size)
    have hBB4 := hBB2.kp (Kp.of_below (S := fun _ => False) hb24) (fun e => e)
    have hG4 := hG.below hb24
    have hGB4 : Blk w4 g6 #[.pointer (some ⟨g, 0, none⟩)] 69 := hu.blk
    (repeat (first | with_reducible refine W.seq ?_ | with_reducible refine Ops.nil ?_ | with_reducible refine W.region ?_ | refine z_p (kk := ?_) | refine z_y (kk := ?_) | refine z_d (kk := ?_)))
    refine Ops.callS rfl rfl rfl rfl rfl (isBound_c _ _) ?_
    (repeat (first | with_reducible refine Ops.nil ?_ | refine z_p (kk := ?_) | refine z_y (kk := ?_)))
    refine W.cond rfl (fun hc => ?_) (fun hc => ?_)
    · (repeat (first | with_reducible refine W.seq ?_ | with_reducible refine Ops.nil ?_ | with_reducible refine W.region ?_ | refine z_p (kk := ?_)))
      exact W.fret rfl ⟨hb04, by simp only [ProvedR]; rw [if_neg (by simp at hc; omega)]; rfl⟩
    · have hbd : -1000 ≤ b ∧ b ≤ 1000 := by simp at hc; omega
      (repeat (first | with_reducible refine W.seq ?_ | with_reducible refine W.region ?_ | refine z_p (kk := ?_) | with_reducible refine W.skip ?_ | refine z_d (kk := ?_)))
      refine Ops.call rfl rfl rfl rfl rfl (proved_c (lf := proofF l b) hG4 (gameOf_TF hg) ⟨58, [], [.pointer (some ⟨g6, 0, none⟩), .pointer (some ⟨bb, 0, none⟩)], rfl, rfl, fun i w' hb' hi => proof1_c (hG4.below hb') (hGB4.kp (Kp.of_below (S := fun _ => False) hb') (fun e => e)) (hBB4.kp (Kp.of_below (S := fun _ => False) hb') (fun e => e)) i hi.1 hi.2.1⟩ (fun i _ => costV_bd _)) (fun r w5 hR => ?_)
      obtain ⟨hb5, es, hN, hGd, hR⟩ := hR
      have hb05 := hb04.trans (hb5.mono hb04.size)
      have hfin : ProvedR l true (proofF l b) b w w5 r := by
        simp only [ProvedR]
        rw [if_pos hbd, hg]
        refine ⟨es, hN, hGd, ?_⟩
        rcases hR with h | ⟨h1, v', h2, h3⟩
        · exact .inl h
        · exact .inr ⟨h1, v', h2, ⟨hb05, h3.own, fun k hk => Nat.le_trans hb04.size (h3.ge k hk)⟩⟩
      rcases hR with ⟨_, rfl⟩ | ⟨_, v', rfl, _⟩
      · (repeat (first | with_reducible refine Ops.nil ?_ | refine z_p (kk := ?_)))
        exact W.fret rfl ⟨hb05, hfin⟩
      · (repeat (first | with_reducible refine Ops.nil ?_ | refine z_p (kk := ?_)))
        exact W.fret rfl ⟨hb05, hfin⟩
theorem refute_c {w : World} {v : Value} {l : List Nd} {b : Int} (hT : TreeM w v l) (hl : l.length ≤ 9223372036854775807) :
    Calls Try.prog 19 #[v, .int .i64 b] w (Ret fun r w' => Below w.heap.size w w' ∧ ProvedR l false (refuteF l b) b w w' r) := by
  refine calls_W (vs := [_, _]) Try.func19 rfl (by kernel_rfl) rfl ?_
  (repeat (first | with_reducible refine W.seq ?_ | with_reducible refine W.region ?_))
  refine Ops.box rfl rfl rfl rfl (fun w1 bb hM1 => ?_)
  have hb1 : Below w.heap.size w w1 := hM1.kp.below (Nat.le_refl _) (fun _ _ e => e)
  (repeat (first | with_reducible refine W.seq ?_ | with_reducible refine Ops.nil ?_ | with_reducible refine W.region ?_ | refine z_p (kk := ?_)))
  refine Ops.call rfl rfl rfl rfl rfl (newGame_c (hT.below hb1) hl) (fun r w2 hR => ?_)
  obtain ⟨hb2, hR⟩ := hR
  have hBB2 : Blk w2 bb #[.int .i64 b] 3 := Blk.kp hM1.at_ (Kp.of_below (S := fun _ => False) hb2) (fun e => e)
  have hb02 := hb1.trans (hb2.mono hb1.size)
  cases hg : gameOf l with
  | none =>
    rw [hg] at hR
    obtain ⟨p, hp1, rfl⟩ := hR
    (repeat (first | refine z_p (kk := ?_)))
    refine Ops.alloc rfl rfl rfl rfl (fun w3 g6 hM3 => ?_)
    refine Ops.st rfl rfl rfl rfl rfl rfl hp1 hM3.at_ (by decide) (fun w4 hu => ?_)
    have k4 := hM3.kp.trans hu.kp
    have hb04 : Below w.heap.size w w4 := Below.at_ hb02 k4 (fun i hi => by rcases hi with hi | hi; exact hi.elim; have := hM3.r_eq; have := hb02.size; omega)
    (repeat (first | with_reducible refine W.seq ?_ | with_reducible refine Ops.nil ?_ | with_reducible refine W.region ?_ | refine z_p (kk := ?_) | refine z_n (kk := ?_)))
    refine W.cond rfl (fun hc => ?_) (fun hc => ?_)
    · (repeat (first | with_reducible refine W.seq ?_ | with_reducible refine Ops.nil ?_ | with_reducible refine W.region ?_ | refine z_p (kk := ?_)))
      exact W.fret rfl ⟨hb04, by simp only [ProvedR, hg, ite_self]; rfl⟩
    · simp at hc
  | some dep =>
    rw [hg] at hR
    obtain ⟨g, rfl, hgs, hG⟩ := hR
    (repeat (first | refine z_p (kk := ?_)))
    refine Ops.alloc rfl rfl rfl rfl (fun w3 g6 hM3 => ?_)
    refine Ops.st rfl rfl rfl rfl rfl rfl rfl hM3.at_ (by decide) (fun w4 hu => ?_)
    have k4 := hM3.kp.trans hu.kp
    have hb24 : Below w2.heap.size w2 w4 := Below.at_ (Below.refl _ _) k4 (fun i hi => by rcases hi with hi | hi; exact hi.elim; have := hM3.r_eq; omega)
    have hb04 : Below w.heap.size w w4 := hb02.trans (hb24.mono hb02.size)
    have hBB4 := hBB2.kp (Kp.of_below (S := fun _ => False) hb24) (fun e => e)
    have hG4 := hG.below hb24
    have hGB4 : Blk w4 g6 #[.pointer (some ⟨g, 0, none⟩)] 69 := hu.blk
    (repeat (first | with_reducible refine W.seq ?_ | with_reducible refine Ops.nil ?_ | with_reducible refine W.region ?_ | refine z_p (kk := ?_) | refine z_y (kk := ?_) | refine z_d (kk := ?_)))
    refine Ops.callS rfl rfl rfl rfl rfl (isBound_c _ _) ?_
    (repeat (first | with_reducible refine Ops.nil ?_ | refine z_p (kk := ?_) | refine z_y (kk := ?_)))
    refine W.cond rfl (fun hc => ?_) (fun hc => ?_)
    · (repeat (first | with_reducible refine W.seq ?_ | with_reducible refine Ops.nil ?_ | with_reducible refine W.region ?_ | refine z_p (kk := ?_)))
      exact W.fret rfl ⟨hb04, by simp only [ProvedR]; rw [if_neg (by simp at hc; omega)]; rfl⟩
    · have hbd : -1000 ≤ b ∧ b ≤ 1000 := by simp at hc; omega
      (repeat (first | with_reducible refine W.seq ?_ | with_reducible refine W.region ?_ | refine z_p (kk := ?_) | with_reducible refine W.skip ?_ | refine z_d (kk := ?_)))
      refine Ops.call rfl rfl rfl rfl rfl (proved_c (lf := refuteF l b) hG4 (gameOf_TF hg) ⟨61, [], [.pointer (some ⟨g6, 0, none⟩), .pointer (some ⟨bb, 0, none⟩)], rfl, rfl, fun i w' hb' hi => refute1_c (hG4.below hb') (hGB4.kp (Kp.of_below (S := fun _ => False) hb') (fun e => e)) (hBB4.kp (Kp.of_below (S := fun _ => False) hb') (fun e => e)) i hi.1 hi.2.1⟩ (fun i _ => costV_bd _)) (fun r w5 hR => ?_)
      obtain ⟨hb5, es, hN, hGd, hR⟩ := hR
      have hb05 := hb04.trans (hb5.mono hb04.size)
      have hfin : ProvedR l false (refuteF l b) b w w5 r := by
        simp only [ProvedR]
        rw [if_pos hbd, hg]
        refine ⟨es, hN, hGd, ?_⟩
        rcases hR with h | ⟨h1, v', h2, h3⟩
        · exact .inl h
        · exact .inr ⟨h1, v', h2, ⟨hb05, h3.own, fun k hk => Nat.le_trans hb04.size (h3.ge k hk)⟩⟩
      rcases hR with ⟨_, rfl⟩ | ⟨_, v', rfl, _⟩
      · (repeat (first | with_reducible refine Ops.nil ?_ | refine z_p (kk := ?_)))
        exact W.fret rfl ⟨hb05, hfin⟩
      · (repeat (first | with_reducible refine Ops.nil ?_ | refine z_p (kk := ?_)))
        exact W.fret rfl ⟨hb05, hfin⟩
end Go.Proofs.Ytdiljpnfochndaa
namespace Go.Proofs.Ytdiljpnfochndaa
open Go Go.RowKit Go.Proofs.Ytdiljpnfochndaa.VW
open Go.Proofs.Ytdiljpnfochndaa.HP (Nd kid wor leafB rd evB TF far Ef ed pickF joinF NE NeedP GoodE gameOf gameOf_TF NV ValP)
attribute [local irreducible] W Ops
/-- Position k of a list of leaves is in order. -/
def okAt (l : List Nd) (xs : List Int) (k : Nat) : Prop := 0 ≤ xs.getD k 0 ∧ xs.getD k 0 ≤ l.length - 1 ∧ leafB l (xs.getD k 0) = true ∧ (0 < k → xs.getD (k - 1) 0 < xs.getD k 0)
def Listed (l : List Nd) (xs : List Int) : Prop := ∀ k, k < xs.length → okAt l xs k
instance (l : List Nd) (xs : List Int) (k : Nat) : Decidable (okAt l xs k) := by unfold okAt; infer_instance
instance (l : List Nd) (xs : List Int) : Decidable (Listed l xs) := by unfold Listed; infer_instance
theorem areLeaves_c {w : World} {g : Nat} {l : List Nd} {dep : List Int} {v : Value} {xs : List Int} (hG : Game w g l dep) (hn : l.length ≤ 60) (hv : SlI w v xs) :
    Calls Try.prog 67 #[.pointer (some ⟨g, 0, none⟩), v] w (Ret fun r w' => Below w.heap.size w w' ∧ ((Listed l xs ∧ ∃ b, r = .tuple #[.map (some b), .bool true] ∧ w.heap.size ≤ b ∧ MapB w' b (fun k => xs.contains k)) ∨ (¬ Listed l xs ∧ r = .tuple #[.map none, .bool false]))) := by
  obtain ⟨tv, dv, hB, hTr, hD⟩ := hG.out
  obtain ⟨At, ct, rfl⟩ := hTr.sl
  have hvl := Sl.len hv
  obtain ⟨A, c, rfl⟩ := Sl.sl hv
  refine calls_W (vs := [_, _]) Try.func67 rfl (by kernel_rfl) rfl ?_
  (repeat (first | with_reducible refine W.seq ?_ | with_reducible refine Ops.nil ?_ | with_reducible refine W.region ?_ | refine z_p (kk := ?_)))
  refine Ops.mkM rfl rfl rfl (fun w1 mb hm k1 hme => ?_)
  have hb1 : Below w.heap.size w w1 := k1.below (Nat.le_refl _) (fun _ _ e => e)
  (repeat (first | with_reducible refine W.seq ?_ | with_reducible refine Ops.nil ?_ | with_reducible refine W.region ?_ | refine z_p (kk := ?_) | with_reducible refine W.block ?_ | refine z_l (kk := ?_)))
  refine W.loop (fun m ρ w3 => ∃ j : Nat, m = xs.length - j ∧ j ≤ xs.length ∧ ρ = [(0, .pointer (some ⟨g, 0, none⟩)), (1, .slice A xs.length c), (6, .map (some mb)), (10, .slice A xs.length c), (11, .int .i64 xs.length), (12, .int .i64 j)] ∧
      Below w.heap.size w w3 ∧ MapB w3 mb (fun k => (xs.take j).contains k) ∧ ∀ k, k < j → okAt l xs k)
    ⟨_, _, ⟨0, rfl, Nat.zero_le _, rfl, hb1, hm, fun k hk => by omega⟩, (by repeat (first | exact trivial | refine And.intro rfl ?_))⟩ ?_
  rintro m ρ w3 ⟨j, rfl, hj, rfl, hb3, hm3, hok⟩
  have hG3 := hG.below hb3
  have hB3 := hB.kp (Kp.of_below (S := fun _ => False) hb3) (fun e => e)
  have hv3 := Sl.below hv hb3
  (repeat (first | with_reducible refine W.seq ?_ | with_reducible refine Ops.nil ?_ | with_reducible refine W.region ?_ | refine z_p (kk := ?_)))
  refine W.cond rfl (fun hc => ?_) (fun hc => ?_)
  · have hlt : j < xs.length := by simp at hc; omega
    have htk : ∀ k, (xs.take (j + 1)).contains k = ((xs.take j).contains k || k == xs.getD j 0) := by
      intro k
      rw [Go.Proofs.Ytdiljpnfochndaa.HP.take_snoc _ _ hlt]
      simp [Bool.beq_eq_decide_eq]
    (repeat (first | with_reducible refine W.seq ?_ | with_reducible refine W.region ?_ | refine z_p (kk := ?_) | with_reducible refine W.skip ?_ | with_reducible refine W.block ?_))
    refine Ops.rdS (enc := Value.int .i64) (z := (0 : Int)) rfl rfl rfl rfl rfl rfl rfl rfl rfl rfl rfl hv3 (by omega) (by omega) (fun p => ?_)
    simp only [Int.toNat_natCast]
    have hoj : okAt l xs j ↔ 0 ≤ xs.getD j 0 ∧ xs.getD j 0 ≤ l.length - 1 ∧ leafB l (xs.getD j 0) = true ∧ (0 < j → xs.getD (j - 1) 0 < xs.getD j 0) := Iff.rfl
    generalize hcj : xs.getD j 0 = cj at *
    (repeat (first | with_reducible refine W.seq ?_ | with_reducible refine Ops.nil ?_ | with_reducible refine W.region ?_ | refine z_p (kk := ?_) | refine z_a (kk := ?_) | refine z_l (kk := ?_) | refine z_f (kk := ?_) | refine z_d (kk := ?_)))
    refine Ops.callS rfl rfl rfl rfl rfl (within_c _ _ _ _) ?_
    refine Ops.cut (fun ρ w' => ∃ b : Bool, ρ = [(0, .pointer (some ⟨g, 0, none⟩)), (1, .slice A xs.length c), (6, .map (some mb)), (8, .int .i64 cj), (10, .slice A xs.length c), (11, .int .i64 xs.length), (12, .int .i64 j), (44, .bool b)] ∧ w' = w3 ∧ (b = false ↔ okAt l xs j)) ?_ ?_
    · (repeat' (first | with_reducible refine Ops.nil ?_ | refine z_p (kk := ?_) | refine z_a (kk := ?_) | refine z_y (kk := ?_) | refine z_n (kk := ?_) | refine z_u (kk := ?_) | refine Ops.gdT rfl rfl rfl rfl (fun _ => ?_) (fun _ => ?_) | refine Ops.gdF rfl rfl rfl rfl (fun _ => ?_) (fun _ => ?_) | refine Ops.callS rfl rfl rfl rfl rfl (isLeaf_c hG3 cj (by rename_i hh; simp at hh; omega) (by rename_i hh; simp at hh; omega)) ?_ | (refine Ops.rdSg (enc := Value.int .i64) (z := (0 : Int)) rfl rfl rfl rfl rfl rfl rfl rfl rfl rfl rfl rfl rfl rfl hv3 (by rename_i hh; simp at hh; omega) (by rename_i hh; simp at hh; omega) (fun p => ?_))))
      all_goals refine W.endl ⟨_, ⟨_, rfl, rfl, ?_⟩, (by repeat (first | exact trivial | refine And.intro rfl ?_))⟩
      all_goals rw [hoj]
      all_goals clear hG hG3 hB hB3 hv hv3 hTr hD hm hm3 hok
      · rename_i h1
        refine ⟨fun h => by simp at h, fun h => ?_⟩
        obtain ⟨q1, q2, _⟩ := h
        simp [q1] at h1
        omega
      · rename_i h1 h2
        refine ⟨fun h => by simp at h, fun h => ?_⟩
        obtain ⟨_, _, q3, _⟩ := h
        simp [q3] at h2
      · rename_i h1 h2 h3
        simp at h1 h2 h3
        rw [show ((j : Int) - 1).toNat = j - 1 by omega]
        simp only [decide_eq_false_iff_not, ge_iff_le]
        exact ⟨fun h => ⟨h1.1, h1.2, h2, fun _ => by omega⟩, fun h => by have := h.2.2.2 h3; omega⟩
      · rename_i h1 h2 h3
        simp at h1 h2 h3
        exact ⟨fun _ => ⟨h1.1, h1.2, h2, fun h => by omega⟩, fun _ => rfl⟩
    · rintro ρ w4 ⟨b, rfl, rfl, hb⟩
      refine W.cond rfl (fun hc2 => ?_) (fun hc2 => ?_)
      · (repeat (first | with_reducible refine W.seq ?_ | with_reducible refine Ops.nil ?_ | with_reducible refine W.region ?_ | refine z_p (kk := ?_)))
        refine W.fret rfl ⟨hb3, .inr ⟨fun h => ?_, rfl⟩⟩
        have := hb.2 (h j hlt)
        rw [hc2] at this
        simp at this
      · (repeat (first | with_reducible refine W.region ?_ | refine z_p (kk := ?_) | with_reducible refine W.skip ?_))
        refine Ops.put rfl rfl rfl rfl rfl rfl rfl rfl hm3 (fun w5 hm5 k5 _ => ?_)
        have hb5 : Below w.heap.size w w5 := Below.at_ hb3 k5 (fun i hi => by omega)
        have hm5' : MapB w5 mb (fun k => (xs.take (j + 1)).contains k) := by
          have e : (fun k => (xs.take (j + 1)).contains k) = fun k => (xs.take j).contains k || k == cj := funext htk
          rw [e]
          exact hm5
        (repeat (first | with_reducible refine Ops.nil ?_ | with_reducible refine W.region ?_ | refine z_p (kk := ?_) | refine z_a (kk := ?_) | with_reducible refine W.endb ?_))
        refine W.endl ⟨_, _, ⟨⟨j + 1, rfl, by omega, rfl, hb5, hm5', fun k hk => ?_⟩, by omega⟩, (by repeat (first | exact trivial | refine And.intro rfl ?_))⟩
        by_cases e : k = j
        · rw [e]; exact hb.1 hc2
        · exact hok k (by omega)
  · have hlt : j = xs.length := by simp at hc; omega
    subst hlt
    rw [List.take_length] at hm3
    (repeat (first | with_reducible refine W.seq ?_ | with_reducible refine Ops.nil ?_ | with_reducible refine W.region ?_ | refine z_p (kk := ?_) | refine W.exit rfl ?_))
    exact W.fret rfl ⟨hb3, .inl ⟨hok, mb, rfl, by omega, hm3⟩⟩
/-- The worth of what is known, and very little for the rest. -/
def worstF (l : List Nd) (xs : List Int) (i : Int) : Int := if xs.contains i then wor l i else -far
theorem decides1_c {w : World} {bm bg g m : Nat} {l : List Nd} {dep xs : List Int} (hG : Game w g l dep) (h1 : Blk w bg #[.pointer (some ⟨g, 0, none⟩)] 69) (h2 : Blk w bm #[.map (some m)] 79) (hm : MapB w m (fun k => xs.contains k)) (i : Int) (h0 : 0 ≤ i) (hi : i < l.length) :
    Calls Try.prog 68 #[.int .i64 i, .pointer (some ⟨bm, 0, none⟩), .pointer (some ⟨bg, 0, none⟩)] w (Ret fun v w' => v = .int .i64 (worstF l xs i) ∧ Below w.heap.size w w') := by
  refine calls_W (vs := [_, _, _]) Try.func68 rfl (by kernel_rfl) rfl ?_
  (repeat (first | with_reducible refine W.seq ?_ | with_reducible refine Ops.nil ?_ | with_reducible refine W.region ?_ | refine z_p (kk := ?_) | refine z_d (kk := ?_)))
  refine Ops.look rfl rfl rfl rfl rfl rfl rfl rfl hm ?_
  (repeat (first | with_reducible refine Ops.nil ?_))
  refine W.cond rfl (fun hc => ?_) (fun hc => ?_)
  · (repeat (first | with_reducible refine W.seq ?_ | with_reducible refine W.region ?_ | refine z_p (kk := ?_) | refine z_d (kk := ?_)))
    refine Ops.callS rfl rfl rfl rfl rfl (worth_c hG i h0 hi) ?_
    (repeat (first | with_reducible refine Ops.nil ?_ | refine z_p (kk := ?_)))
    exact W.fret rfl ⟨by rw [worstF, if_pos hc]; rfl, Below.refl _ _⟩
  · (repeat (first | with_reducible refine W.seq ?_ | with_reducible refine Ops.nil ?_ | with_reducible refine W.region ?_ | refine z_p (kk := ?_) | with_reducible refine W.skip ?_))
    exact W.fret rfl ⟨by rw [worstF, if_neg (by rw [hc]; simp)]; rfl, Below.refl _ _⟩
/-- What a leaf needs, if some are known. -/
def numF (l : List Nd) (xs : List Int) (b : Int) (mx : Bool) (i : Int) : Int := if xs.contains i then (if decide (b ≤ wor l i) == mx then 0 else far) else 1
theorem numbers11_c {w : World} {bm bg bb bx g m : Nat} {l : List Nd} {dep xs : List Int} {b : Int} {mx : Bool} (hG : Game w g l dep) (h1 : Blk w bg #[.pointer (some ⟨g, 0, none⟩)] 69) (h2 : Blk w bm #[.map (some m)] 79) (h3 : Blk w bb #[.int .i64 b] 3) (h4 : Blk w bx #[.bool mx] 4) (hm : MapB w m (fun k => xs.contains k)) (i : Int) (h0 : 0 ≤ i) (hi : i < l.length) :
    Calls Try.prog 72 #[.int .i64 i, .pointer (some ⟨bm, 0, none⟩), .pointer (some ⟨bg, 0, none⟩), .pointer (some ⟨bb, 0, none⟩), .pointer (some ⟨bx, 0, none⟩)] w (Ret fun v w' => v = .int .i64 (numF l xs b mx i) ∧ Below w.heap.size w w') := by
  refine calls_W (vs := [_, _, _, _, _]) Try.func72 rfl (by kernel_rfl) rfl ?_
  (repeat (first | with_reducible refine W.seq ?_ | with_reducible refine Ops.nil ?_ | with_reducible refine W.region ?_ | refine z_p (kk := ?_) | with_reducible refine W.block ?_ | refine z_d (kk := ?_)))
  refine Ops.look rfl rfl rfl rfl rfl rfl rfl rfl hm ?_
  (repeat (first | with_reducible refine Ops.nil ?_ | refine z_p (kk := ?_)))
  refine W.cond rfl (fun hc => ?_) (fun hc => ?_)
  · (repeat (first | with_reducible refine W.seq ?_ | with_reducible refine Ops.nil ?_ | with_reducible refine W.region ?_ | refine z_p (kk := ?_)))
    exact W.fret rfl ⟨by rw [numF, if_neg (by simpa using hc)]; rfl, Below.refl _ _⟩
  · (repeat (first | with_reducible refine W.seq ?_))
    refine W.still' rfl (by kernel_rfl) (fun w1 k1 _ => ?_)
    have hG' := hG.below (k1.below (Nat.le_refl _) (fun _ _ e => e))
    have h1' := h1.kp k1 (fun e => e)
    have h3' := h3.kp k1 (fun e => e)
    have h4' := h4.kp k1 (fun e => e)
    have hbl : Below w.heap.size w w1 := k1.below (Nat.le_refl _) (fun _ _ e => e)
    (repeat (first | refine z_p (kk := ?_) | refine z_d (kk := ?_)))
    refine Ops.callS rfl rfl rfl rfl rfl (worth_c hG' i h0 hi) ?_
    (repeat (first | refine z_p (kk := ?_) | refine z_e (kk := ?_) | refine z_d (kk := ?_)))
    refine Ops.nilS rfl ?_
    (repeat (first | with_reducible refine Ops.nil ?_))
    refine W.cond rfl (fun hc2 => ?_) (fun hc2 => ?_)
    · (repeat (first | with_reducible refine W.seq ?_ | with_reducible refine Ops.nil ?_ | with_reducible refine W.region ?_ | refine z_p (kk := ?_)))
      exact W.fret rfl ⟨by rw [numF, if_pos (by simpa using hc), if_pos (by simpa using hc2)]; rfl, hbl⟩
    · (repeat (first | with_reducible refine W.seq ?_ | with_reducible refine Ops.nil ?_ | with_reducible refine W.region ?_ | refine z_p (kk := ?_) | with_reducible refine W.skip ?_ | with_reducible refine W.endb ?_))
      exact W.fret rfl ⟨by rw [numF, if_pos (by simpa using hc), if_neg (by simpa using hc2)]; rfl, hbl⟩
end Go.Proofs.Ytdiljpnfochndaa
namespace Go.Proofs.Ytdiljpnfochndaa
open Go Go.RowKit Go.Proofs.Ytdiljpnfochndaa.VW
open Go.Proofs.Ytdiljpnfochndaa.HP (Nd kid wor leafB rd evB TF far Ef ed pickF joinF NE NeedP GoodE gameOf gameOf_TF NV ValP)
attribute [local irreducible] W Ops
def DecR (l : List Nd) (xs : List Int) (b : Int) (r : Value) : Prop := (if Listed l xs ∧ -1000 ≤ b ∧ b ≤ 1000 then gameOf l else none).elim (r = .tuple #[.bool false, .int .i64 2]) fun dep => ∃ vs, ValP l dep (worstF l xs) vs ∧ r = .tuple #[.bool (decide (b ≤ vs.getD 0 0)), .int .i64 0]
theorem decides_c {w : World} {v sv : Value} {l : List Nd} {xs : List Int} {b : Int} (hT : TreeM w v l) (hl : l.length ≤ 9223372036854775807) (hs : SlI w sv xs) :
    Calls Try.prog 30 #[v, sv, .int .i64 b] w (Ret fun r w' => Below w.heap.size w w' ∧ DecR l xs b r) := by
  obtain ⟨As, cs, hsv⟩ := Sl.sl hs
  refine calls_W (vs := [_, _, _]) Try.func30 rfl (by kernel_rfl) rfl ?_
  (repeat (first | with_reducible refine W.seq ?_ | with_reducible refine Ops.nil ?_ | with_reducible refine W.region ?_ | refine z_p (kk := ?_)))
  refine Ops.call rfl rfl rfl rfl rfl (newGame_c hT hl) (fun r w2 hR => ?_)
  obtain ⟨hb02, hR⟩ := hR
  cases hg : gameOf l with
  | none =>
    rw [hg] at hR
    obtain ⟨p, hp1, rfl⟩ := hR
    (repeat (first | refine z_p (kk := ?_)))
    refine Ops.alloc rfl rfl rfl rfl (fun w3 g6 hM3 => ?_)
    refine Ops.st rfl rfl rfl rfl rfl rfl hp1 hM3.at_ (by decide) (fun w4 hu => ?_)
    have k4 := hM3.kp.trans hu.kp
    have hb04 : Below w.heap.size w w4 := Below.at_ hb02 k4 (fun i hi => by rcases hi with hi | hi; exact hi.elim; have := hM3.r_eq; have := hb02.size; omega)
    (repeat (first | with_reducible refine W.seq ?_ | with_reducible refine Ops.nil ?_ | with_reducible refine W.region ?_ | refine z_p (kk := ?_)))
    refine W.cond rfl (fun hc => ?_) (fun hc => ?_)
    · (repeat (first | with_reducible refine W.seq ?_ | with_reducible refine Ops.nil ?_ | with_reducible refine W.region ?_ | refine z_p (kk := ?_)))
      exact W.fret rfl ⟨hb04, by simp only [DecR, hg, ite_self]; rfl⟩
    · simp at hc
  | some dep =>
    rw [hg] at hR
    obtain ⟨g, rfl, hgs, hG⟩ := hR
    have hT2 := gameOf_TF hg
    have hn60 := hT2.n60
    (repeat (first | refine z_p (kk := ?_)))
    refine Ops.alloc rfl rfl rfl rfl (fun w3 g6 hM3 => ?_)
    refine Ops.st rfl rfl rfl rfl rfl rfl rfl hM3.at_ (by decide) (fun w4 hu => ?_)
    have k4 := hM3.kp.trans hu.kp
    have hb24 : Below w2.heap.size w2 w4 := Below.at_ (Below.refl _ _) k4 (fun i hi => by rcases hi with hi | hi; exact hi.elim; have := hM3.r_eq; omega)
    have hb04 : Below w.heap.size w w4 := hb02.trans (hb24.mono hb02.size)
    have hG4 := hG.below hb24
    have hGB4 : Blk w4 g6 #[.pointer (some ⟨g, 0, none⟩)] 69 := hu.blk
    (repeat (first | with_reducible refine W.seq ?_ | with_reducible refine Ops.nil ?_ | with_reducible refine W.region ?_ | refine z_p (kk := ?_)))
    refine W.cond rfl (fun hc => ?_) (fun hc => ?_)
    · simp at hc
    · (repeat (first | with_reducible refine W.seq ?_ | with_reducible refine W.region ?_ | refine z_p (kk := ?_) | with_reducible refine W.skip ?_ | refine z_d (kk := ?_)))
      refine Ops.call rfl rfl rfl rfl rfl (areLeaves_c hG4 hn60 (hs.below hb04)) (fun r w5 hR => ?_)
      obtain ⟨hb45, hR⟩ := hR
      have hb05 := hb04.trans (hb45.mono hb04.size)
      have hG5 := hG4.below hb45
      have hGB5 := hGB4.kp (Kp.of_below (S := fun _ => False) hb45) (fun e => e)
      rcases hR with ⟨hL, m, rfl, hms, hm⟩ | ⟨hL, rfl⟩
      · (repeat (first | refine z_p (kk := ?_)))
        refine Ops.alloc rfl rfl rfl rfl (fun w6 m6 hM6 => ?_)
        refine Ops.st rfl rfl rfl rfl rfl rfl rfl hM6.at_ (by decide) (fun w7 hu7 => ?_)
        have k7 := hM6.kp.trans hu7.kp
        have hb57 : Below w5.heap.size w5 w7 := Below.at_ (Below.refl _ _) k7 (fun i hi => by rcases hi with hi | hi; exact hi.elim; have := hM6.r_eq; omega)
        have hb07 : Below w.heap.size w w7 := hb05.trans (hb57.mono hb05.size)
        have hG7 := hG5.below hb57
        have hMB7 : Blk w7 m6 #[.map (some m)] 79 := hu7.blk
        have hGB7 := hGB5.kp (Kp.of_below (S := fun _ => False) hb57) (fun e => e)
        have hm7 := hm.kp (Kp.of_below (S := fun _ => False) hb57) (fun e => e)
        (repeat (first | with_reducible refine W.seq ?_ | with_reducible refine Ops.nil ?_ | with_reducible refine W.region ?_ | refine z_p (kk := ?_) | refine z_y (kk := ?_)))
        refine Ops.callS rfl rfl rfl rfl rfl (isBound_c _ _) ?_
        (repeat (first | with_reducible refine Ops.nil ?_ | refine z_p (kk := ?_) | refine z_y (kk := ?_)))
        refine W.cond rfl (fun hc => ?_) (fun hc => ?_)
        · (repeat (first | with_reducible refine W.seq ?_ | with_reducible refine Ops.nil ?_ | with_reducible refine W.region ?_ | refine z_p (kk := ?_)))
          exact W.fret rfl ⟨hb07, by simp only [DecR]; rw [if_neg (by simp at hc; omega)]; rfl⟩
        · have hbd : -1000 ≤ b ∧ b ≤ 1000 := by simp at hc; omega
          (repeat (first | with_reducible refine W.seq ?_ | with_reducible refine Ops.nil ?_ | with_reducible refine W.region ?_ | refine z_p (kk := ?_) | with_reducible refine W.skip ?_ | refine z_d (kk := ?_)))
          refine Ops.call rfl rfl rfl rfl rfl (values_c (wf := worstF l xs) hG7 hT2 ⟨68, [], [.pointer (some ⟨m6, 0, none⟩), .pointer (some ⟨g6, 0, none⟩)], rfl, rfl, fun i w' hb' hi => decides1_c (hG7.below hb') (hGB7.kp (Kp.of_below (S := fun _ => False) hb') (fun e => e)) (hMB7.kp (Kp.of_below (S := fun _ => False) hb') (fun e => e)) (hm7.kp (Kp.of_below (S := fun _ => False) hb') (fun e => e)) i hi.1 hi.2.1⟩) (fun r w8 hR => ?_)
          obtain ⟨vs, hvs, hI⟩ := hR
          have hb08 := hb07.trans (hI.bel.mono hb07.size)
          have hvl := hvs.len
          have hn1 := hT2.n1
          refine Ops.rdS (enc := Value.int .i64) (z := (0 : Int)) rfl rfl rfl rfl rfl rfl rfl rfl rfl rfl rfl hI.sl (by omega) (by omega) (fun p => ?_)
          (repeat (first | with_reducible refine Ops.nil ?_ | refine z_p (kk := ?_)))
          exact W.fret rfl ⟨hb08, by simp only [DecR]; rw [if_pos ⟨hL, hbd⟩, hg]; exact ⟨vs, hvs, rfl⟩⟩
      · (repeat (first | refine z_p (kk := ?_)))
        refine Ops.alloc rfl rfl rfl rfl (fun w6 m6 hM6 => ?_)
        refine Ops.st rfl rfl rfl rfl rfl rfl rfl hM6.at_ (by decide) (fun w7 hu7 => ?_)
        have k7 := hM6.kp.trans hu7.kp
        have hb07 : Below w.heap.size w w7 := Below.at_ hb05 k7 (fun i hi => by rcases hi with hi | hi; exact hi.elim; have := hM6.r_eq; have := hb05.size; omega)
        (repeat (first | with_reducible refine W.seq ?_ | with_reducible refine Ops.nil ?_ | with_reducible refine W.region ?_ | refine z_p (kk := ?_) | refine z_n (kk := ?_)))
        refine W.cond rfl (fun hc => ?_) (fun hc => ?_)
        · (repeat (first | with_reducible refine W.seq ?_ | with_reducible refine Ops.nil ?_ | with_reducible refine W.region ?_ | refine z_p (kk := ?_)))
          exact W.fret rfl ⟨hb07, by simp only [DecR]; rw [if_neg (fun h => hL h.1)]; rfl⟩
        · simp at hc
theorem numF_bd {l : List Nd} {xs : List Int} {b : Int} {mx : Bool} (i : Int) : 0 ≤ numF l xs b mx i ∧ numF l xs b mx i ≤ far := by
  unfold numF
  split
  · split <;> decide
  · decide
/-- How many leaves a side needs. -/
def NumR (l : List Nd) (dep xs : List Int) (b : Int) (mx : Bool) (z : Int) : Prop := ∃ es, NeedP l dep mx (numF l xs b mx) es ∧ z = if far ≤ (es.getD 0 (0, [])).1 then -1 else (es.getD 0 (0, [])).1
theorem numbers1_c {w : World} {bm bg bb g m : Nat} {l : List Nd} {dep xs : List Int} {b : Int} {mx : Bool} (hG : Game w g l dep) (hT : TF l dep) (h1 : Blk w bg #[.pointer (some ⟨g, 0, none⟩)] 69) (h2 : Blk w bm #[.map (some m)] 79) (h3 : Blk w bb #[.int .i64 b] 3) (hm : MapB w m (fun k => xs.contains k)) :
    Calls Try.prog 70 #[.bool mx, .pointer (some ⟨bg, 0, none⟩), .pointer (some ⟨bm, 0, none⟩), .pointer (some ⟨bb, 0, none⟩)] w (Ret fun r w' => Below w.heap.size w w' ∧ ∃ z, NumR l dep xs b mx z ∧ r = .int .i64 z) := by
  refine calls_W (vs := [_, _, _, _]) Try.func70 rfl (by kernel_rfl) rfl ?_
  (repeat (first | with_reducible refine W.seq ?_ | with_reducible refine W.region ?_))
  refine Ops.box rfl rfl rfl rfl (fun w1 bx hM1 => ?_)
  have hb1 : Below w.heap.size w w1 := hM1.kp.below (Nat.le_refl _) (fun _ _ e => e)
  have k1 := hM1.kp
  have hBX : Blk w1 bx #[.bool mx] 4 := hM1.at_
  have hG1 := hG.below hb1
  have h11 := h1.kp k1 (fun e => e)
  have h21 := h2.kp k1 (fun e => e)
  have h31 := h3.kp k1 (fun e => e)
  have hm1 := hm.kp k1 (fun e => e)
  (repeat (first | with_reducible refine W.seq ?_ | with_reducible refine Ops.nil ?_ | with_reducible refine W.region ?_ | refine z_p (kk := ?_) | refine z_d (kk := ?_)))
  refine Ops.call rfl rfl rfl rfl rfl (need_c (lf := numF l xs b mx) hG1 hT ⟨72, [], [.pointer (some ⟨bm, 0, none⟩), .pointer (some ⟨bg, 0, none⟩), .pointer (some ⟨bb, 0, none⟩), .pointer (some ⟨bx, 0, none⟩)], rfl, rfl, fun i w' hb' hi => ?_⟩ (fun i _ => numF_bd _)) (fun r w2 hR => ?_)
  · have k' := Kp.of_below (S := fun _ => False) hb'
    exact numbers11_c (hG1.below hb') (h11.kp k' (fun e => e)) (h21.kp k' (fun e => e)) (h31.kp k' (fun e => e)) (hBX.kp k' (fun e => e)) (hm1.kp k' (fun e => e)) i hi.1 hi.2.1
  obtain ⟨hb2, es, lv, hN, hGd, rfl, hI⟩ := hR
  have hb02 := hb1.trans (hb2.mono hb1.size)
  refine Ops.fieldV (off := 0) rfl rfl rfl (by kernel_rfl) rfl rfl ?_
  (repeat (first | with_reducible refine W.seq ?_ | with_reducible refine Ops.nil ?_ | with_reducible refine W.region ?_ | refine z_p (kk := ?_)))
  refine W.cond rfl (fun hc => ?_) (fun hc => ?_)
  · (repeat (first | with_reducible refine W.seq ?_ | with_reducible refine Ops.nil ?_ | with_reducible refine W.region ?_ | refine z_p (kk := ?_)))
    exact W.fret rfl ⟨hb02, _, ⟨es, hN, (if_pos (by simpa using hc)).symm⟩, rfl⟩
  · (repeat (first | with_reducible refine W.seq ?_ | with_reducible refine Ops.nil ?_ | with_reducible refine W.region ?_ | refine z_p (kk := ?_) | with_reducible refine W.skip ?_))
    exact W.fret rfl ⟨hb02, _, ⟨es, hN, (if_neg (by simpa using hc)).symm⟩, rfl⟩
def NumbersR (l : List Nd) (xs : List Int) (b : Int) (r : Value) : Prop := (if Listed l xs ∧ -1000 ≤ b ∧ b ≤ 1000 then gameOf l else none).elim (r = .tuple #[.int .i64 0, .int .i64 0, .int .i64 2]) fun dep => ∃ y z, NumR l dep xs b true y ∧ NumR l dep xs b false z ∧ r = .tuple #[.int .i64 y, .int .i64 z, .int .i64 0]
theorem numbers_c {w : World} {v sv : Value} {l : List Nd} {xs : List Int} {b : Int} (hT : TreeM w v l) (hl : l.length ≤ 9223372036854775807) (hs : SlI w sv xs) :
    Calls Try.prog 31 #[v, sv, .int .i64 b] w (Ret fun r w' => Below w.heap.size w w' ∧ NumbersR l xs b r) := by
  obtain ⟨As, cs, hsv⟩ := Sl.sl hs
  refine calls_W (vs := [_, _, _]) Try.func31 rfl (by kernel_rfl) rfl ?_
  (repeat (first | with_reducible refine W.seq ?_ | with_reducible refine W.region ?_))
  refine Ops.box rfl rfl rfl rfl (fun w1 bb hM1 => ?_)
  have hb1 : Below w.heap.size w w1 := hM1.kp.below (Nat.le_refl _) (fun _ _ e => e)
  (repeat (first | with_reducible refine W.seq ?_ | with_reducible refine Ops.nil ?_ | with_reducible refine W.region ?_ | refine z_p (kk := ?_)))
  refine Ops.call rfl rfl rfl rfl rfl (newGame_c (hT.below hb1) hl) (fun r w2 hR => ?_)
  obtain ⟨hb2, hR⟩ := hR
  have hBB2 : Blk w2 bb #[.int .i64 b] 3 := Blk.kp hM1.at_ (Kp.of_below (S := fun _ => False) hb2) (fun e => e)
  have hb02 := hb1.trans (hb2.mono hb1.size)
  cases hg : gameOf l with
  | none =>
    rw [hg] at hR
    obtain ⟨p, hp1, rfl⟩ := hR
    (repeat (first | refine z_p (kk := ?_)))
    refine Ops.alloc rfl rfl rfl rfl (fun w3 g6 hM3 => ?_)
    refine Ops.st rfl rfl rfl rfl rfl rfl hp1 hM3.at_ (by decide) (fun w4 hu => ?_)
    have k4 := hM3.kp.trans hu.kp
    have hb04 : Below w.heap.size w w4 := Below.at_ hb02 k4 (fun i hi => by rcases hi with hi | hi; exact hi.elim; have := hM3.r_eq; have := hb02.size; omega)
    (repeat (first | with_reducible refine W.seq ?_ | with_reducible refine Ops.nil ?_ | with_reducible refine W.region ?_ | refine z_p (kk := ?_)))
    refine W.cond rfl (fun hc => ?_) (fun hc => ?_)
    · (repeat (first | with_reducible refine W.seq ?_ | with_reducible refine Ops.nil ?_ | with_reducible refine W.region ?_ | refine z_p (kk := ?_)))
      exact W.fret rfl ⟨hb04, by simp only [NumbersR, hg, ite_self]; rfl⟩
    · simp at hc
  | some dep =>
    rw [hg] at hR
    obtain ⟨g, rfl, hgs, hG⟩ := hR
    have hT2 := gameOf_TF hg
    have hn60 := hT2.n60
    (repeat (first | refine z_p (kk := ?_)))
    refine Ops.alloc rfl rfl rfl rfl (fun w3 g6 hM3 => ?_)
    refine Ops.st rfl rfl rfl rfl rfl rfl rfl hM3.at_ (by decide) (fun w4 hu => ?_)
    have k4 := hM3.kp.trans hu.kp
    have hb24 : Below w2.heap.size w2 w4 := Below.at_ (Below.refl _ _) k4 (fun i hi => by rcases hi with hi | hi; exact hi.elim; have := hM3.r_eq; omega)
    have hb04 : Below w.heap.size w w4 := hb02.trans (hb24.mono hb02.size)
    have hG4 := hG.below hb24
    have hGB4 : Blk w4 g6 #[.pointer (some ⟨g, 0, none⟩)] 69 := hu.blk
    (repeat (first | with_reducible refine W.seq ?_ | with_reducible refine Ops.nil ?_ | with_reducible refine W.region ?_ | refine z_p (kk := ?_)))
    refine W.cond rfl (fun hc => ?_) (fun hc => ?_)
    · simp at hc
    · (repeat (first | with_reducible refine W.seq ?_ | with_reducible refine W.region ?_ | refine z_p (kk := ?_) | with_reducible refine W.skip ?_ | refine z_d (kk := ?_)))
      refine Ops.call rfl rfl rfl rfl rfl (areLeaves_c hG4 hn60 (hs.below hb04)) (fun r w5 hR => ?_)
      obtain ⟨hb45, hR⟩ := hR
      have hb05 := hb04.trans (hb45.mono hb04.size)
      have hG5 := hG4.below hb45
      have hGB5 := hGB4.kp (Kp.of_below (S := fun _ => False) hb45) (fun e => e)
      rcases hR with ⟨hL, m, rfl, hms, hm⟩ | ⟨hL, rfl⟩
      · (repeat (first | refine z_p (kk := ?_)))
        refine Ops.alloc rfl rfl rfl rfl (fun w6 m6 hM6 => ?_)
        refine Ops.st rfl rfl rfl rfl rfl rfl rfl hM6.at_ (by decide) (fun w7 hu7 => ?_)
        have k7 := hM6.kp.trans hu7.kp
        have hb57 : Below w5.heap.size w5 w7 := Below.at_ (Below.refl _ _) k7 (fun i hi => by rcases hi with hi | hi; exact hi.elim; have := hM6.r_eq; omega)
        have hb07 : Below w.heap.size w w7 := hb05.trans (hb57.mono hb05.size)
        have hG7 := hG5.below hb57
        have hMB7 : Blk w7 m6 #[.map (some m)] 79 := hu7.blk
        have hGB7 := hGB5.kp (Kp.of_below (S := fun _ => False) hb57) (fun e => e)
        have hm7 := hm.kp (Kp.of_below (S := fun _ => False) hb57) (fun e => e)
        have hBB4 := hBB2.kp (Kp.of_below (S := fun _ => False) hb24) (fun e => e)
        have hBB7 := (hBB4.kp (Kp.of_below (S := fun _ => False) hb45) (fun e => e)).kp (Kp.of_below (S := fun _ => False) hb57) (fun e => e)
        (repeat (first | with_reducible refine W.seq ?_ | with_reducible refine Ops.nil ?_ | with_reducible refine W.region ?_ | refine z_p (kk := ?_) | refine z_y (kk := ?_) | refine z_d (kk := ?_)))
        refine Ops.callS rfl rfl rfl rfl rfl (isBound_c _ _) ?_
        (repeat (first | with_reducible refine Ops.nil ?_ | refine z_p (kk := ?_) | refine z_y (kk := ?_)))
        refine W.cond rfl (fun hc => ?_) (fun hc => ?_)
        · (repeat (first | with_reducible refine W.seq ?_ | with_reducible refine Ops.nil ?_ | with_reducible refine W.region ?_ | refine z_p (kk := ?_)))
          exact W.fret rfl ⟨hb07, by simp only [NumbersR]; rw [if_neg (by simp at hc; omega)]; rfl⟩
        · have hbd : -1000 ≤ b ∧ b ≤ 1000 := by simp at hc; omega
          (repeat (first | with_reducible refine W.seq ?_ | with_reducible refine Ops.nil ?_ | with_reducible refine W.region ?_ | refine z_p (kk := ?_) | with_reducible refine W.skip ?_))
          refine Ops.call rfl rfl rfl rfl rfl (numbers1_c (xs := xs) (b := b) hG7 hT2 hGB7 hMB7 hBB7 hm7) (fun r w8 hR => ?_)
          obtain ⟨hb8, z1, hz1, rfl⟩ := hR
          have k8 := Kp.of_below (S := fun _ => False) hb8
          (repeat (first | refine z_p (kk := ?_)))
          refine Ops.call rfl rfl rfl rfl rfl (numbers1_c (xs := xs) (b := b) (hG7.below hb8) hT2 (hGB7.kp k8 (fun e => e)) (hMB7.kp k8 (fun e => e)) (hBB7.kp k8 (fun e => e)) (hm7.kp k8 (fun e => e))) (fun r w9 hR => ?_)
          obtain ⟨hb9, z2, hz2, rfl⟩ := hR
          have hb08 := hb07.trans (hb8.mono hb07.size)
          have hb09 := hb08.trans (hb9.mono hb08.size)
          (repeat (first | with_reducible refine Ops.nil ?_ | refine z_p (kk := ?_)))
          exact W.fret rfl ⟨hb09, by simp only [NumbersR]; rw [if_pos ⟨hL, hbd⟩, hg]; exact ⟨z1, z2, hz1, hz2, rfl⟩⟩
      · (repeat (first | refine z_p (kk := ?_)))
        refine Ops.alloc rfl rfl rfl rfl (fun w6 m6 hM6 => ?_)
        refine Ops.st rfl rfl rfl rfl rfl rfl rfl hM6.at_ (by decide) (fun w7 hu7 => ?_)
        have k7 := hM6.kp.trans hu7.kp
        have hb07 : Below w.heap.size w w7 := Below.at_ hb05 k7 (fun i hi => by rcases hi with hi | hi; exact hi.elim; have := hM6.r_eq; have := hb05.size; omega)
        (repeat (first | with_reducible refine W.seq ?_ | with_reducible refine Ops.nil ?_ | with_reducible refine W.region ?_ | refine z_p (kk := ?_) | refine z_n (kk := ?_)))
        refine W.cond rfl (fun hc => ?_) (fun hc => ?_)
        · (repeat (first | with_reducible refine W.seq ?_ | with_reducible refine Ops.nil ?_ | with_reducible refine W.region ?_ | refine z_p (kk := ?_)))
          exact W.fret rfl ⟨hb07, by simp only [NumbersR]; rw [if_neg (fun h => hL h.1)]; rfl⟩
        · simp at hc
end Go.Proofs.Ytdiljpnfochndaa
/- The search. -/
namespace Go.Proofs.Ytdiljpnfochndaa.HP
def kidsS (rec : Int → Int → Int → Int × List Int) (ev : Bool) : List Int → Int → Int → Int × Int × List Int
  | [], lo, hi => (lo, hi, [])
  | c :: r, lo, hi =>
    if (if ev then hi else min hi (rec c lo hi).1) ≤ (if ev then max lo (rec c lo hi).1 else lo) then ((if ev then max lo (rec c lo hi).1 else lo), (if ev then hi else min hi (rec c lo hi).1), (rec c lo hi).2) else
      ((kidsS rec ev r (if ev then max lo (rec c lo hi).1 else lo) (if ev then hi else min hi (rec c lo hi).1)).1, (kidsS rec ev r (if ev then max lo (rec c lo hi).1 else lo) (if ev then hi else min hi (rec c lo hi).1)).2.1,
        (rec c lo hi).2 ++ (kidsS rec ev r (if ev then max lo (rec c lo hi).1 else lo) (if ev then hi else min hi (rec c lo hi).1)).2.2)
def srS (l : List Nd) (dep : List Int) : Nat → Int → Int → Int → Int × List Int
  | 0, _, _, _ => (0, [])
  | f + 1, i, lo, hi => if leafB l i then (wor l i, [i]) else
    (if evB dep i then (kidsS (srS l dep f) (evB dep i) (kid l i) lo hi).1 else (kidsS (srS l dep f) (evB dep i) (kid l i) lo hi).2.1, (kidsS (srS l dep f) (evB dep i) (kid l i) lo hi).2.2)
theorem anc_disj {l : List Nd} {dep : List Int} (hT : TF l dep) {j b t : Nat} (hj : j < l.length) (hb : b < (kid l j).length) (ht : t < (kid l j).length) {k k' : Nat} {x : Int} (h1 : Anc l k ((kid l j).getD b 0) x) (h2 : Anc l k' ((kid l j).getD t 0) x) : b = t := by
  have q1 := hT.kin j b hj hb
  have q2 := hT.kin j t hj ht
  have d1 := hT.kdep j b hj hb
  have d2 := hT.kdep j t hj ht
  simp only [k_] at q1 q2 d1 d2
  have e1 := h1.dep hT (by omega)
  have e2 := h2.dep hT (by omega)
  have hk : k = k' := by omega
  subst hk
  have := Anc.uniq hT (by omega) (by omega) h1 h2
  exact (hT.inj j b j t hj hb hj ht this).2
theorem kids_good {l : List Nd} {dep : List Int} (hT : TF l dep) {j : Nat} (hj : j < l.length) {rec : Int → Int → Int → Int × List Int} {ev : Bool} (hg : ∀ c ∈ kid l j, ∀ lo hi, GoodE l c (rec c lo hi).2) :
    ∀ (d t : Nat), (kid l j).length - t = d → t ≤ (kid l j).length → ∀ lo hi, GoodE l j (kidsS rec ev ((kid l j).drop t) lo hi).2.2 ∧ ∀ x ∈ (kidsS rec ev ((kid l j).drop t) lo hi).2.2, ∃ b k, t ≤ b ∧ b < (kid l j).length ∧ Anc l k ((kid l j).getD b 0) x := by
  intro d
  induction d with
  | zero =>
    intro t hd ht lo hi
    rw [List.drop_eq_nil_of_le (by omega)]
    exact ⟨GoodE.nil _ _, by simp [kidsS]⟩
  | succ d ih =>
    intro t hd ht lo hi
    rw [drop_get _ _ (0 : Int) (by omega)]
    have hmem : (kid l j).getD t 0 ∈ kid l j := by
      rw [List.getD_eq_getElem?_getD, List.getElem?_eq_getElem (by omega)]
      simp
    have hc := hg _ hmem lo hi
    simp only [kidsS]
    generalize (if ev then hi else min hi (rec ((kid l j).getD t 0) lo hi).1) = hi' at *
    generalize (if ev then max lo (rec ((kid l j).getD t 0) lo hi).1 else lo) = lo' at *
    split
    · exact ⟨hc.up hmem, fun x hx => by obtain ⟨_, _, _, k, ha⟩ := hc.mem x hx; exact ⟨t, k, Nat.le_refl _, by omega, ha⟩⟩
    · obtain ⟨h1, h2⟩ := ih (t + 1) (by omega) (by omega) lo' hi'
      refine ⟨⟨fun x hx => ?_, ?_⟩, fun x hx => ?_⟩
      · rcases List.mem_append.1 hx with hx | hx
        · exact (hc.up hmem).mem x hx
        · exact h1.mem x hx
      · simp only
        rw [List.nodup_append]
        refine ⟨hc.nd, h1.nd, fun x hx y hy e => ?_⟩
        subst e
        obtain ⟨b, k, hb, hbl, ha⟩ := h2 x hy
        obtain ⟨_, _, _, k', ha'⟩ := hc.mem x hx
        have := anc_disj hT hj hbl (by omega) ha ha'
        omega
      · rcases List.mem_append.1 hx with hx | hx
        · obtain ⟨_, _, _, k, ha⟩ := hc.mem x hx
          exact ⟨t, k, Nat.le_refl _, by omega, ha⟩
        · obtain ⟨b, k, hb, hbl, ha⟩ := h2 x hx
          exact ⟨b, k, by omega, hbl, ha⟩
theorem srS_good {l : List Nd} {dep : List Int} (hT : TF l dep) : ∀ (f : Nat) (i : Nat) (lo hi : Int), i < l.length → GoodE l i (srS l dep f i lo hi).2
  | 0, i, _, _, _ => GoodE.nil _ _
  | f + 1, i, lo, hi, hi' => by
    simp only [srS]
    split
    · rename_i hl
      refine ⟨fun x hx => ?_, by simp⟩
      simp at hx
      subst hx
      exact ⟨by omega, by omega, hl, 0, rfl⟩
    · have := (kids_good hT hi' (ev := evB dep i) (fun c hc lo hi => by
        obtain ⟨h1, h2⟩ := mem_kid hT hi' hc
        have := srS_good hT f c.toNat lo hi (by omega)
        rw [show ((c.toNat : Nat) : Int) = c by omega] at this
        exact this) _ 0 rfl (Nat.zero_le _) lo hi).1
      simpa using this
end Go.Proofs.Ytdiljpnfochndaa.HP
namespace Go.Proofs.Ytdiljpnfochndaa
open Go Go.RowKit Go.Proofs.Ytdiljpnfochndaa.VW
open Go.Proofs.Ytdiljpnfochndaa.HP (Nd kid wor leafB rd evB TF far GoodE gameOf gameOf_TF kidsS srS srS_good kids_good)
attribute [local irreducible] W Ops
def selfV (bg bv bt bs : Nat) : Value := .func (.func 73) #[] #[.pointer (some ⟨bg, 0, none⟩), .pointer (some ⟨bv, 0, none⟩), .pointer (some ⟨bt, 0, none⟩), .pointer (some ⟨bs, 0, none⟩)]
/-- What the search keeps: the leaves visited so far, and itself. -/
structure SInv (wG : World) (bg bv bt bs : Nat) (vis : List Int) (w : World) : Prop where
  bel : Below wG.heap.size wG w
  self : Blk w bs #[selfV bg bv bt bs] 88
  vis : ∃ lv, Blk w bv #[lv] 24 ∧ w.ownsRow 0 3 1 lv vis.length (vis.map (Value.int .i64)) ∧ ∀ k, lv.ownBlock = some k → wG.heap.size ≤ k ∧ k ≠ bv ∧ k ≠ bs
set_option maxRecDepth 100000 in
theorem srch_c {wG : World} {g bg bv bt bs : Nat} {tv : Value} {l : List Nd} {dep : List Int} (hG : Game wG g l dep) (hT : TF l dep) (hTr : TreeM wG tv l) (hBG : Blk wG bg #[.pointer (some ⟨g, 0, none⟩)] 69) (hBT : Blk wG bt #[tv] 22)
    (hbv : wG.heap.size ≤ bv) (hbs : wG.heap.size ≤ bs) (hne : bv ≠ bs) : ∀ (f i : Nat) (lo hi : Int) (vis : List Int) (w : World), i < l.length → l.length ≤ i + f → vis.length + 60 * f ≤ 1000000 → SInv wG bg bv bt bs vis w →
    Calls Try.prog 73 #[.int .i64 i, .int .i64 lo, .int .i64 hi, .pointer (some ⟨bg, 0, none⟩), .pointer (some ⟨bv, 0, none⟩), .pointer (some ⟨bt, 0, none⟩), .pointer (some ⟨bs, 0, none⟩)] w
      (Ret fun r w' => r = .int .i64 (srS l dep f i lo hi).1 ∧ SInv wG bg bv bt bs (vis ++ (srS l dep f i lo hi).2) w') := by
  intro f
  induction f with
  | zero => intro i lo hi vis w h1 h2; omega
  | succ f ih =>
    intro i lo hi vis w hi1 hi2 hvl hS
    have hn60 := hT.n60
    have hG0 := hG.below hS.bel
    have hBG0 := hBG.kp (Kp.of_below (S := fun _ => False) hS.bel) (fun e => e)
    have hBT0 := hBT.kp (Kp.of_below (S := fun _ => False) hS.bel) (fun e => e)
    obtain ⟨At, ct, rfl⟩ := hTr.sl
    have hself := hS.self
    refine calls_W (vs := [_, _, _, _, _, _, _]) Try.func73 rfl (by kernel_rfl) rfl ?_
    (repeat (first | with_reducible refine W.seq ?_ | with_reducible refine Ops.nil ?_ | with_reducible refine W.region ?_ | refine z_p (kk := ?_)))
    refine W.scope (fun _ _ _ h => h) ?_
    (repeat (first | with_reducible refine W.seq ?_ | with_reducible refine W.region ?_ | refine z_p (kk := ?_) | refine z_d (kk := ?_)))
    refine Ops.callS rfl rfl rfl rfl rfl (isLeaf_c hG0 i (by omega) (by omega)) ?_
    (repeat (first | with_reducible refine Ops.nil ?_))
    refine W.cond rfl (fun hlf => ?_) (fun hlf => ?_)
    · obtain ⟨lv, hBV, hown, hge⟩ := hS.vis
      (repeat (first | with_reducible refine W.seq ?_ | with_reducible refine W.region ?_ | refine z_p (kk := ?_) | refine z_d (kk := ?_)))
      refine Ops.push rfl rfl rfl rfl rfl rfl rfl rfl rfl rfl rfl rfl (fun _ => rfl) rfl hown (by omega) (fun lv' p w1 hown1 k1 hn1 => ?_)
      have hBV1 := hBV.kp k1 (fun e => (hge bv e).2.1 rfl)
      have hlv1 : lv'.oneCell' = true := by obtain ⟨A, c, h⟩ := Sl.sl (own_sl (enc := Value.int .i64) (z := (0 : Int)) (xs := vis ++ [(i : Int)]) (by simpa using hown1)); rw [h]; rfl
      refine Ops.st rfl rfl rfl rfl rfl rfl hlv1 hBV1 (by simp) (fun w2 hu => ?_)
      have hltv : bv < w.heap.size := (Array.getElem?_eq_some_iff.1 hBV).1
      have hlts : bs < w.heap.size := (Array.getElem?_eq_some_iff.1 hself).1
      have hge' : ∀ k, lv'.ownBlock = some k → wG.heap.size ≤ k ∧ k ≠ bv ∧ k ≠ bs := by
        intro k hk
        rcases hn1 k hk with h | h
        · exact hge k h
        · have := hS.bel.size
          exact ⟨by omega, by omega, by omega⟩
      have hS2 : SInv wG bg bv bt bs (vis ++ [(i : Int)]) w2 := by
        refine ⟨Below.at_ (Below.at_ hS.bel k1 (fun j hj => (hge j hj).1)) hu.kp (fun j hj => by omega), (hself.kp k1 (fun e => (hge bs e).2.2 rfl)).kp hu.kp (fun e => hne e.symm), lv', hu.blk, ?_, hge'⟩
        have h2 := own_kp hown1 hu.kp (fun j hj e => (hge' j hj).2.1 e)
        simpa using h2
      have hG2 := hG.below hS2.bel
      have hBG2 := hBG.kp (Kp.of_below (S := fun _ => False) hS2.bel) (fun e => e)
      (repeat (first | with_reducible refine W.seq ?_ | with_reducible refine Ops.nil ?_ | with_reducible refine W.region ?_ | refine z_p (kk := ?_) | refine z_d (kk := ?_)))
      refine Ops.callS rfl rfl rfl rfl rfl (worth_c hG2 i (by omega) (by omega)) ?_
      (repeat (first | with_reducible refine Ops.nil ?_ | refine z_p (kk := ?_)))
      have e : srS l dep (f + 1) i lo hi = (wor l i, [(i : Int)]) := by simp only [srS]; rw [if_pos hlf]
      exact W.fret rfl ⟨by rw [e]; rfl, by rw [e]; exact hS2⟩
    · (repeat (first | with_reducible refine W.seq ?_ | with_reducible refine W.skip ?_))
      refine W.label ?_
      (repeat (first | with_reducible refine W.seq ?_ | with_reducible refine W.region ?_ | refine z_p (kk := ?_) | refine z_d (kk := ?_)))
      refine Ops.rdK rfl rfl rfl rfl rfl rfl rfl rfl rfl rfl rfl rfl rfl rfl rfl hTr hS.bel (by omega) (by omega) (fun cv p q' hcv => ?_)
      obtain ⟨Ac, cc, rfl⟩ := Sl.sl hcv
      have hkl := hT.klen i hi1
      have hsr : srS l dep (f + 1) i lo hi = (if evB dep i then (kidsS (srS l dep f) (evB dep i) (kid l i) lo hi).1 else (kidsS (srS l dep f) (evB dep i) (kid l i) lo hi).2.1, (kidsS (srS l dep f) (evB dep i) (kid l i) lo hi).2.2) := by simp only [srS]; rw [if_neg (by rw [hlf]; simp)]
      have hgk : ∀ c ∈ kid l i, ∀ lo hi, GoodE l c (srS l dep f c lo hi).2 := fun c hc lo hi => by
        obtain ⟨h1, h2⟩ := Go.Proofs.Ytdiljpnfochndaa.HP.mem_kid hT hi1 hc
        have := srS_good hT f c.toNat lo hi (by omega)
        rw [show ((c.toNat : Nat) : Int) = c by omega] at this
        exact this
      have hgood := (kids_good hT hi1 (rec := srS l dep f) (ev := evB dep i) hgk _ 0 rfl (Nat.zero_le _) lo hi).1.len
      rw [List.drop_zero] at hgood
      rw [hsr]
      generalize hQ : kidsS (srS l dep f) (evB dep i) (kid l i) lo hi = Q at *
      (repeat (first | with_reducible refine Ops.nil ?_ | refine z_p (kk := ?_) | refine z_l (kk := ?_)))
      refine W.cut (fun ρ w' => ρ = [(0, .int .i64 i), (1, .int .i64 Q.1), (2, .int .i64 Q.2.1), (3, .pointer (some ⟨bg, 0, none⟩))] ∧ SInv wG bg bv bt bs (vis ++ Q.2.2) w') ?_ ?_
      · refine W.block ?_
        refine W.loop (fun m ρ w1 => ∃ (t : Nat) (lo' hi' : Int) (acc : List Int), m = (kid l i).length - t ∧ t ≤ (kid l i).length ∧ ρ = [(0, .int .i64 i), (1, .int .i64 lo'), (2, .int .i64 hi'), (3, .pointer (some ⟨bg, 0, none⟩)), (6, .pointer (some ⟨bs, 0, none⟩)), (28, .slice Ac (kid l i).length cc), (29, .int .i64 (kid l i).length), (30, .int .i64 t)] ∧
            SInv wG bg bv bt bs (vis ++ acc) w1 ∧ (kidsS (srS l dep f) (evB dep i) ((kid l i).drop t) lo' hi').1 = Q.1 ∧ (kidsS (srS l dep f) (evB dep i) ((kid l i).drop t) lo' hi').2.1 = Q.2.1 ∧ acc ++ (kidsS (srS l dep f) (evB dep i) ((kid l i).drop t) lo' hi').2.2 = Q.2.2)
          ⟨_, _, ⟨0, lo, hi, [], rfl, Nat.zero_le _, rfl, by rw [List.append_nil]; exact hS, by rw [List.drop_zero, hQ], by rw [List.drop_zero, hQ], by rw [List.drop_zero, hQ]; rfl⟩, (by repeat (first | exact trivial | refine And.intro rfl ?_))⟩ ?_
        rintro m ρ w1 ⟨t, lo', hi', acc, rfl, ht, rfl, hS1, hq1, hq2, hq3⟩
        have hacc : acc.length ≤ l.length := by rw [← hq3, List.length_append] at hgood; omega
        have hself1 := hS1.self
        have hG1 := hG.below hS1.bel
        have hBG1 := hBG.kp (Kp.of_below (S := fun _ => False) hS1.bel) (fun e => e)
        (repeat (first | with_reducible refine W.seq ?_ | with_reducible refine Ops.nil ?_ | with_reducible refine W.region ?_ | refine z_p (kk := ?_)))
        refine W.cond rfl (fun hc => ?_) (fun hc => ?_)
        · have hlt : t < (kid l i).length := by simp at hc; omega
          have hkin := hT.kin i t hi1 hlt
          simp only [Go.Proofs.Ytdiljpnfochndaa.HP.k_] at hkin
          rw [Go.Proofs.Ytdiljpnfochndaa.HP.drop_get _ _ (0 : Int) hlt] at hq1 hq2 hq3
          (repeat (first | with_reducible refine W.seq ?_ | with_reducible refine W.region ?_ | with_reducible refine W.skip ?_ | with_reducible refine W.block ?_))
          refine Ops.rdS (enc := Value.int .i64) (z := (0 : Int)) rfl rfl rfl rfl rfl rfl rfl rfl rfl rfl rfl (Sl.below hcv hS1.bel) (by omega) (by omega) (fun p => ?_)
          simp only [Int.toNat_natCast]
          generalize hcj : (kid l i).getD t 0 = cj at *
          obtain ⟨j, rfl⟩ := Int.eq_ofNat_of_zero_le (show 0 ≤ cj by omega)
          (repeat (first | with_reducible refine W.seq ?_ | with_reducible refine Ops.nil ?_ | with_reducible refine W.region ?_ | refine z_p (kk := ?_) | refine z_d (kk := ?_)))
          refine Ops.call rfl rfl rfl rfl rfl (ih j lo' hi' (vis ++ acc) w1 (by omega) (by omega) (by rw [List.length_append]; omega) hS1) (fun r w2 hR => ?_)
          obtain ⟨rfl, hS2⟩ := hR
          simp only [kidsS] at hq1 hq2 hq3
          generalize srS l dep f j lo' hi' = X at *
          have hG2 := hG.below hS2.bel
          have hBG2 := hBG.kp (Kp.of_below (S := fun _ => False) hS2.bel) (fun e => e)
          rw [List.append_assoc] at hS2
          (repeat (first | with_reducible refine W.seq ?_ | with_reducible refine Ops.nil ?_ | with_reducible refine W.region ?_ | refine z_p (kk := ?_) | refine z_d (kk := ?_)))
          refine Ops.callS rfl rfl rfl rfl rfl (atMax_c hG2 i (by omega) (by have := hT.len; omega)) ?_
          (repeat (first | with_reducible refine Ops.nil ?_))
          refine W.cond rfl (fun hev => ?_) (fun hev => ?_)
          · simp only [hev, if_true] at hq1 hq2 hq3
            (repeat (first | with_reducible refine W.seq ?_ | with_reducible refine Ops.nil ?_ | with_reducible refine W.region ?_ | refine z_p (kk := ?_) | refine z_M (kk := ?_)))
            refine W.cond rfl (fun hge => ?_) (fun hge => ?_)
            · have hge' : hi' ≤ max lo' X.1 := by simpa using hge
              rw [if_pos hge'] at hq1 hq2 hq3
              (repeat (first | refine W.exit rfl ?_))
              refine W.endl ⟨_, ⟨rfl, by rw [← hq3]; exact hS2⟩, by rw [← hq1, ← hq2]; exact (by repeat (first | exact trivial | refine And.intro rfl ?_))⟩
            · have hge' : ¬ hi' ≤ max lo' X.1 := by simpa using hge
              rw [if_neg hge'] at hq1 hq2 hq3
              (repeat (first | with_reducible refine Ops.nil ?_ | with_reducible refine W.region ?_ | refine z_p (kk := ?_) | refine z_a (kk := ?_) | with_reducible refine W.skip ?_ | with_reducible refine W.endb ?_))
              refine W.endl ⟨_, _, ⟨⟨t + 1, _, _, _, rfl, by omega, rfl, hS2, by rw [hev]; exact hq1, by rw [hev]; exact hq2, by rw [hev]; simpa using hq3⟩, by omega⟩, (by repeat (first | exact trivial | refine And.intro rfl ?_))⟩
          · simp only [hev, Bool.false_eq_true, if_false] at hq1 hq2 hq3
            (repeat (first | with_reducible refine W.seq ?_ | with_reducible refine Ops.nil ?_ | with_reducible refine W.region ?_ | refine z_p (kk := ?_) | refine z_m (kk := ?_)))
            refine W.cond rfl (fun hge => ?_) (fun hge => ?_)
            · have hge' : min hi' X.1 ≤ lo' := by simpa using hge
              rw [if_pos hge'] at hq1 hq2 hq3
              (repeat (first | refine W.exit rfl ?_))
              refine W.endl ⟨_, ⟨rfl, by rw [← hq3]; exact hS2⟩, by rw [← hq1, ← hq2]; exact (by repeat (first | exact trivial | refine And.intro rfl ?_))⟩
            · have hge' : ¬ min hi' X.1 ≤ lo' := by simpa using hge
              rw [if_neg hge'] at hq1 hq2 hq3
              (repeat (first | with_reducible refine Ops.nil ?_ | with_reducible refine W.region ?_ | refine z_p (kk := ?_) | refine z_a (kk := ?_) | with_reducible refine W.skip ?_ | with_reducible refine W.endb ?_))
              refine W.endl ⟨_, _, ⟨⟨t + 1, _, _, _, rfl, by omega, rfl, hS2, by rw [hev]; exact hq1, by rw [hev]; exact hq2, by rw [hev]; simpa using hq3⟩, by omega⟩, (by repeat (first | exact trivial | refine And.intro rfl ?_))⟩
        · have hlt : t = (kid l i).length := by simp at hc; omega
          subst hlt
          rw [List.drop_length] at hq1 hq2 hq3
          simp only [kidsS, List.append_nil] at hq1 hq2 hq3
          (repeat (first | refine W.exit rfl ?_))
          exact W.endl ⟨_, ⟨rfl, by rw [← hq3]; exact hS1⟩, by rw [← hq1, ← hq2]; exact (by repeat (first | exact trivial | refine And.intro rfl ?_))⟩
      · rintro ρ w1 ⟨rfl, hS1⟩
        have hG1 := hG.below hS1.bel
        have hBG1 := hBG.kp (Kp.of_below (S := fun _ => False) hS1.bel) (fun e => e)
        (repeat (first | with_reducible refine W.seq ?_ | with_reducible refine W.region ?_ | refine z_p (kk := ?_) | refine z_d (kk := ?_)))
        refine Ops.callS rfl rfl rfl rfl rfl (atMax_c hG1 i (by omega) (by have := hT.len; omega)) ?_
        (repeat (first | with_reducible refine Ops.nil ?_))
        refine W.cond rfl (fun hev => ?_) (fun hev => ?_)
        · (repeat (first | with_reducible refine W.seq ?_ | with_reducible refine Ops.nil ?_ | with_reducible refine W.region ?_ | refine z_p (kk := ?_)))
          exact W.fret rfl ⟨by rw [hev]; rfl, hS1⟩
        · (repeat (first | with_reducible refine W.seq ?_ | with_reducible refine Ops.nil ?_ | with_reducible refine W.region ?_ | refine z_p (kk := ?_) | with_reducible refine W.skip ?_))
          exact W.fret rfl ⟨by rw [hev]; rfl, hS1⟩
end Go.Proofs.Ytdiljpnfochndaa
namespace Go.Proofs.Ytdiljpnfochndaa
open Go Go.RowKit Go.Proofs.Ytdiljpnfochndaa.VW
open Go.Proofs.Ytdiljpnfochndaa.HP (Nd kid wor leafB rd evB TF far GoodE gameOf gameOf_TF kidsS srS srS_good kids_good)
attribute [local irreducible] W Ops
def SearchR (l : List Nd) (w w' : World) (r : Value) : Prop := (gameOf l).elim (r = .tuple #[.int .i64 0, .slice none 0 0, .int .i64 2]) fun dep => ∃ v, r = .tuple #[.int .i64 (srS l dep l.length 0 (-far) far).1, v, .int .i64 0] ∧ FInv w w' v (srS l dep l.length 0 (-far) far).2
theorem search_c {w : World} {v : Value} {l : List Nd} (hT : TreeM w v l) (hl : l.length ≤ 9223372036854775807) :
    Calls Try.prog 38 #[v] w (Ret fun r w' => Below w.heap.size w w' ∧ SearchR l w w' r) := by
  refine calls_W (vs := [_]) Try.func38 rfl (by kernel_rfl) rfl ?_
  (repeat (first | with_reducible refine W.seq ?_ | with_reducible refine W.region ?_))
  refine Ops.box rfl rfl rfl rfl (fun w1 bt hM1 => ?_)
  have hb1 : Below w.heap.size w w1 := hM1.kp.below (Nat.le_refl _) (fun _ _ e => e)
  have hBT1 : Blk w1 bt #[v] 22 := by obtain ⟨A, c, rfl⟩ := hT.sl; exact hM1.at_
  (repeat (first | with_reducible refine W.seq ?_ | with_reducible refine Ops.nil ?_ | with_reducible refine W.region ?_ | refine z_p (kk := ?_) | refine z_d (kk := ?_)))
  refine Ops.call rfl rfl rfl rfl rfl (newGame_c (hT.below hb1) hl) (fun r w2 hR => ?_)
  obtain ⟨hb2, hR⟩ := hR
  have hBT2 := hBT1.kp (Kp.of_below (S := fun _ => False) hb2) (fun e => e)
  have hb02 := hb1.trans (hb2.mono hb1.size)
  cases hg : gameOf l with
  | none =>
    rw [hg] at hR
    obtain ⟨p, hp1, rfl⟩ := hR
    (repeat (first | refine z_p (kk := ?_)))
    refine Ops.alloc rfl rfl rfl rfl (fun w3 g6 hM3 => ?_)
    refine Ops.st rfl rfl rfl rfl rfl rfl hp1 hM3.at_ (by decide) (fun w4 hu => ?_)
    have k4 := hM3.kp.trans hu.kp
    have hb04 : Below w.heap.size w w4 := Below.at_ hb02 k4 (fun i hi => by rcases hi with hi | hi; exact hi.elim; have := hM3.r_eq; have := hb02.size; omega)
    (repeat (first | with_reducible refine W.seq ?_ | with_reducible refine Ops.nil ?_ | with_reducible refine W.region ?_ | refine z_p (kk := ?_)))
    refine W.cond rfl (fun hc => ?_) (fun hc => ?_)
    · (repeat (first | with_reducible refine W.seq ?_ | with_reducible refine Ops.nil ?_ | with_reducible refine W.region ?_ | refine z_p (kk := ?_)))
      exact W.fret rfl ⟨hb04, by simp only [SearchR, hg]; rfl⟩
    · simp at hc
  | some dep =>
    rw [hg] at hR
    obtain ⟨g, rfl, hgs, hG⟩ := hR
    have hT2 := gameOf_TF hg
    have hn1 := hT2.n1
    have hn60 := hT2.n60
    (repeat (first | refine z_p (kk := ?_)))
    refine Ops.alloc rfl rfl rfl rfl (fun w3 bg hM3 => ?_)
    refine Ops.st rfl rfl rfl rfl rfl rfl rfl hM3.at_ (by decide) (fun w4 hu => ?_)
    have k4 := hM3.kp.trans hu.kp
    have hb24 : Below w2.heap.size w2 w4 := Below.at_ (Below.refl _ _) k4 (fun i hi => by rcases hi with hi | hi; exact hi.elim; have := hM3.r_eq; omega)
    have hb04 : Below w.heap.size w w4 := hb02.trans (hb24.mono hb02.size)
    have hG4 := hG.below hb24
    have hGB4 : Blk w4 bg #[.pointer (some ⟨g, 0, none⟩)] 69 := hu.blk
    have hBT4 := hBT2.kp (Kp.of_below (S := fun _ => False) hb24) (fun e => e)
    (repeat (first | with_reducible refine W.seq ?_ | with_reducible refine Ops.nil ?_ | with_reducible refine W.region ?_ | refine z_p (kk := ?_)))
    refine W.cond rfl (fun hc => ?_) (fun hc => ?_)
    · simp at hc
    · (repeat (first | with_reducible refine W.seq ?_ | with_reducible refine W.region ?_ | with_reducible refine W.skip ?_))
      refine Ops.alloc rfl rfl rfl rfl (fun w5 bv hM5 => ?_)
      (repeat (first | with_reducible refine W.seq ?_ | with_reducible refine Ops.nil ?_ | with_reducible refine W.region ?_))
      refine Ops.alloc rfl rfl rfl rfl (fun w6 bs hM6 => ?_)
      (repeat (first | with_reducible refine W.seq ?_ | with_reducible refine Ops.nil ?_ | with_reducible refine W.region ?_ | refine z_p (kk := ?_)))
      refine Ops.st rfl rfl rfl rfl rfl rfl rfl hM6.at_ (by decide) (fun w7 hu7 => ?_)
      have e5 := hM5.r_eq
      have e6 := hM6.r_eq
      have e7 := hM5.size
      have hk7 := (hM5.kp.trans hM6.kp).trans hu7.kp
      have hS7 : SInv w4 bg bv bt bs [] w7 := by
        refine ⟨Below.at_ (Below.refl _ _) hk7 (fun i hi => by rcases hi with (hi | hi) | hi; exact hi.elim; exact hi.elim; omega), hu7.blk, .slice none 0 0, Blk.kp (Blk.kp hM5.at_ hM6.kp (fun e => e)) hu7.kp (fun e => by omega), World.ownsRow_nil _ 0 3 1, fun k hk => by simp [Value.ownBlock] at hk⟩
      have hself := hS7.self
      (repeat (first | with_reducible refine W.seq ?_ | with_reducible refine Ops.nil ?_ | with_reducible refine W.region ?_ | refine z_d (kk := ?_)))
      refine Ops.call rfl rfl rfl rfl rfl (srch_c hG4 hT2 (hT.below hb04) hGB4 hBT4 (by omega) (by omega) (by omega) l.length 0 (-far) far [] w7 (by omega) (by omega) (by simp; omega) hS7) (fun r w8 hR => ?_)
      obtain ⟨rfl, hS8⟩ := hR
      rw [List.nil_append] at hS8
      (repeat (first | with_reducible refine W.seq ?_ | with_reducible refine Ops.nil ?_ | refine z_p (kk := ?_)))
      refine W.still' rfl (by kernel_rfl) (fun w9 k9 _ => ?_)
      obtain ⟨lv, hBV, hown, hge⟩ := hS8.vis
      have hBV9 := hBV.kp k9 (fun e => e)
      have hown9 := own_kp hown k9 (fun _ _ e => e)
      have hb9 : Below w.heap.size w w9 := hb04.trans ((Below.at_ hS8.bel k9 (fun _ e => e.elim)).mono hb04.size)
      (repeat (first | refine z_p (kk := ?_) | refine z_d (kk := ?_)))
      refine Ops.nilS rfl ?_
      (repeat (first | with_reducible refine Ops.nil ?_))
      refine W.fret rfl ⟨hb9, ?_⟩
      simp only [SearchR, hg]
      exact ⟨lv, rfl, hb9, hown9, fun k hk => by have := (hge k hk).1; have := hb04.size; omega⟩
end Go.Proofs.Ytdiljpnfochndaa
namespace Go.Proofs.Ytdiljpnfochndaa
open Go Go.RowKit Go.Proofs.Ytdiljpnfochndaa.VW
open Go.Proofs.Ytdiljpnfochndaa.HP (Nd kid wor leafB rd evB TF far Ef GoodE gameOf gameOf_TF kidsS srS srS_good kids_good ValP NV NeedP NE)
attribute [local irreducible] W Ops
abbrev smp : List Nd := [([1, 2], 0), ([3, 4], 0), ([5, 6], 0), ([], 3), ([], 5), ([], 2), ([], 9)]
abbrev sdep : List Int := [0, 1, 1, 2, 2, 2, 2]
theorem smp_game : gameOf smp = some sdep := by decide
theorem smp_val {vs : List Int} (h : ValP smp sdep (wor smp) vs) : vs.getD 0 0 = 3 := by
  have h2 : ValP smp sdep (wor smp) [3, 3, 2, 3, 5, 2, 9] := ⟨rfl, by decide⟩
  rw [ValP.uniq (gameOf_TF smp_game) h h2]
  rfl
theorem smp_srch : srS smp sdep smp.length 0 (-far) far = (3, [3, 4, 5]) := by decide
theorem smp_proof {es : List Ef} (h : NeedP smp sdep true (proofF smp 3) es) : es.getD 0 (0, []) = (2, [3, 4]) := by
  have h2 : NeedP smp sdep true (proofF smp 3) [(2, [3, 4]), (2, [3, 4]), (far, [5, 6]), (1, [3]), (1, [4]), (far, [5]), (1, [6])] := ⟨rfl, by decide⟩
  rw [NeedP.uniq (gameOf_TF smp_game) h h2]
  rfl
theorem smp_num {z : Int} {mx : Bool} (h : NumR smp sdep [] 4 mx z) : z = 2 := by
  obtain ⟨es, h, rfl⟩ := h
  cases mx with
  | true =>
    have h2 : NeedP smp sdep true (numF smp [] 4 true) [(2, [3, 4]), (2, [3, 4]), (2, [5, 6]), (1, [3]), (1, [4]), (1, [5]), (1, [6])] := ⟨rfl, by decide⟩
    rw [NeedP.uniq (gameOf_TF smp_game) h h2]
    decide
  | false =>
    have h2 : NeedP smp sdep false (numF smp [] 4 false) [(2, [3, 5]), (1, [3]), (1, [5]), (1, [3]), (1, [4]), (1, [5]), (1, [6])] := ⟨rfl, by decide⟩
    rw [NeedP.uniq (gameOf_TF smp_game) h h2]
    decide
theorem ints_c {w : World} {v1 v2 : Value} {xs ys : List Int} (h1 : SlI w v1 xs) (h2 : SlI w v2 ys) :
    Calls Try.prog 41 #[v1, v2] w (Ret fun r w' => r = .bool (decide (xs = ys)) ∧ Below w.heap.size w w') := by
  have hl1 := Sl.len h1
  have hl2 := Sl.len h2
  obtain ⟨A1, c1, rfl⟩ := Sl.sl h1
  obtain ⟨A2, c2, rfl⟩ := Sl.sl h2
  refine calls_W (vs := [_, _]) Try.func41 rfl (by kernel_rfl) rfl ?_
  (repeat (first | with_reducible refine W.seq ?_ | with_reducible refine Ops.nil ?_ | with_reducible refine W.region ?_ | refine z_p (kk := ?_) | refine z_l (kk := ?_)))
  refine W.cond rfl (fun hc => ?_) (fun hc => ?_)
  · (repeat (first | with_reducible refine W.seq ?_ | with_reducible refine Ops.nil ?_ | with_reducible refine W.region ?_ | refine z_p (kk := ?_)))
    refine W.fret rfl ⟨?_, Below.refl _ _⟩
    have hne : xs ≠ ys := by intro e; subst e; simp at hc
    simp [hne, resV]
  · have hll : xs.length = ys.length := by simp at hc; omega
    (repeat (first | with_reducible refine W.seq ?_ | with_reducible refine Ops.nil ?_ | with_reducible refine W.region ?_ | refine z_p (kk := ?_) | with_reducible refine W.skip ?_ | with_reducible refine W.block ?_))
    refine W.loop (fun m ρ w3 => ∃ j : Nat, m = xs.length - j ∧ j ≤ xs.length ∧ ρ = [(0, .slice A1 xs.length c1), (1, .slice A2 ys.length c2), (5, .int .i64 j)] ∧ Below w.heap.size w w3 ∧ ∀ k, k < j → xs.getD k 0 = ys.getD k 0)
      ⟨_, _, ⟨0, rfl, Nat.zero_le _, rfl, Below.refl _ _, fun k hk => by omega⟩, (by repeat (first | exact trivial | refine And.intro rfl ?_))⟩ ?_
    rintro m ρ w3 ⟨j, rfl, hj, rfl, hb3, hok⟩
    (repeat (first | with_reducible refine W.seq ?_ | with_reducible refine Ops.nil ?_ | with_reducible refine W.region ?_ | refine z_p (kk := ?_) | refine z_l (kk := ?_)))
    refine W.cond rfl (fun hc => ?_) (fun hc => ?_)
    · have hlt : j < xs.length := by simp at hc; omega
      (repeat (first | with_reducible refine W.seq ?_ | with_reducible refine W.skip ?_ | with_reducible refine W.block ?_))
      refine W.still' rfl (by kernel_rfl) (fun w4 k4 _ => ?_)
      have hb4 := Below.at_ hb3 k4 (fun _ e => e.elim)
      (repeat (first | refine z_p (kk := ?_)))
      refine Ops.rdS (enc := Value.int .i64) (z := (0 : Int)) rfl rfl rfl rfl rfl rfl rfl rfl rfl rfl rfl (Sl.below h1 hb4) (by omega) (by omega) (fun p => ?_)
      (repeat (first | refine z_p (kk := ?_)))
      refine Ops.rdS (enc := Value.int .i64) (z := (0 : Int)) rfl rfl rfl rfl rfl rfl rfl rfl rfl rfl rfl (Sl.below h2 hb4) (by omega) (by omega) (fun p => ?_)
      simp only [Int.toNat_natCast]
      (repeat (first | refine z_p (kk := ?_)))
      refine Ops.nilS rfl ?_
      (repeat (first | with_reducible refine Ops.nil ?_))
      refine W.cond rfl (fun hc2 => ?_) (fun hc2 => ?_)
      · (repeat (first | with_reducible refine W.seq ?_ | with_reducible refine Ops.nil ?_ | with_reducible refine W.region ?_ | refine z_p (kk := ?_)))
        refine W.fret rfl ⟨?_, hb4⟩
        have hne : xs ≠ ys := by intro e; subst e; simp at hc2
        simp [hne, resV]
      · (repeat (first | with_reducible refine Ops.nil ?_ | with_reducible refine W.region ?_ | refine z_p (kk := ?_) | refine z_a (kk := ?_) | with_reducible refine W.skip ?_ | with_reducible refine W.endb ?_))
        refine W.endl ⟨_, _, ⟨⟨j + 1, rfl, by omega, rfl, hb4, fun k hk => ?_⟩, by omega⟩, (by repeat (first | exact trivial | refine And.intro rfl ?_))⟩
        by_cases e : k = j
        · rw [e]; simpa using hc2
        · exact hok k (by omega)
    · have hlt : j = xs.length := by simp at hc; omega
      subst hlt
      (repeat (first | with_reducible refine W.seq ?_ | with_reducible refine Ops.nil ?_ | with_reducible refine W.region ?_ | refine z_p (kk := ?_) | refine W.exit rfl ?_))
      refine W.fret rfl ⟨?_, hb3⟩
      have he : xs = ys := by
        apply List.ext_getElem hll
        intro i i1 i2
        have := hok i i1
        simpa [List.getD_eq_getElem?_getD, i1, i2] using this
      simp [he, resV]
theorem own2 {w : World} {r : Nat} {a b : Int} (h : Blk w r #[.int .i64 a, .int .i64 b] 3) : SlI w (.slice (some ⟨r, 0, none⟩) 2 2) [a, b] := by
  refine ⟨by simp, _, 2, rfl, fun _ => ⟨_, rfl, fun j hj => ?_⟩⟩
  rw [add_lit, Nat.zero_add]
  rcases j with _ | _ | j
  · exact h.cell rfl
  · exact h.cell rfl
  · simp at hj; omega
theorem sl3 {w : World} {r : Nat} {a b c : Int} (h : Blk w r #[.int .i64 a, .int .i64 b, .int .i64 c] 3) : SlI w (.slice (some ⟨r, 0, none⟩) 3 3) [a, b, c] := by
  refine ⟨by simp, _, 3, rfl, fun _ => ⟨_, rfl, fun j hj => ?_⟩⟩
  rw [add_lit, Nat.zero_add]
  rcases j with _ | _ | _ | j
  · exact h.cell rfl
  · exact h.cell rfl
  · exact h.cell rfl
  · simp at hj; omega
theorem sample_c (w : World) : Calls Try.prog 62 #[] w (Ret fun r w' => TreeM w' r smp ∧ Below w.heap.size w w') := by
  refine calls_W (vs := []) Try.func62 rfl (by kernel_rfl) rfl ?_
  (repeat (first | with_reducible refine W.seq ?_ | with_reducible refine Ops.nil ?_ | with_reducible refine W.region ?_ | refine z_p (kk := ?_)))
  refine Ops.bs2 rfl rfl rfl rfl rfl rfl rfl rfl rfl rfl rfl (fun w1 r1 hM1 => ?_)
  refine Ops.bldG (cs := #[.slice (some ⟨r1, 0, none⟩) 2 2, .int .i64 0]) rfl rfl rfl rfl rfl rfl (by kernel_rfl) ?_
  refine Ops.bs2 rfl rfl rfl rfl rfl rfl rfl rfl rfl rfl rfl (fun w2 r2 hM2 => ?_)
  refine Ops.bldG (cs := #[.slice (some ⟨r2, 0, none⟩) 2 2, .int .i64 0]) rfl rfl rfl rfl rfl rfl (by kernel_rfl) ?_
  refine Ops.bs2 rfl rfl rfl rfl rfl rfl rfl rfl rfl rfl rfl (fun w3 r3 hM3 => ?_)
  refine Ops.bldG (cs := #[.slice (some ⟨r3, 0, none⟩) 2 2, .int .i64 0]) rfl rfl rfl rfl rfl rfl (by kernel_rfl) ?_
  refine Ops.bldG (cs := #[.slice none 0 0, .int .i64 3]) rfl rfl rfl rfl rfl rfl (by kernel_rfl) ?_
  refine Ops.bldG (cs := #[.slice none 0 0, .int .i64 5]) rfl rfl rfl rfl rfl rfl (by kernel_rfl) ?_
  refine Ops.bldG (cs := #[.slice none 0 0, .int .i64 2]) rfl rfl rfl rfl rfl rfl (by kernel_rfl) ?_
  refine Ops.bldG (cs := #[.slice none 0 0, .int .i64 9]) rfl rfl rfl rfl rfl rfl (by kernel_rfl) ?_
  refine Ops.bsG (cs := #[.slice (some ⟨r1, 0, none⟩) 2 2, .int .i64 0, .slice (some ⟨r2, 0, none⟩) 2 2, .int .i64 0, .slice (some ⟨r3, 0, none⟩) 2 2, .int .i64 0, .slice none 0 0, .int .i64 3, .slice none 0 0, .int .i64 5, .slice none 0 0, .int .i64 2, .slice none 0 0, .int .i64 9]) rfl rfl rfl rfl rfl rfl rfl rfl rfl (by kernel_rfl) (fun w4 r4 hM4 => ?_)
  (repeat (first | with_reducible refine Ops.nil ?_ | refine z_p (kk := ?_)))
  have k14 := (hM2.kp.trans hM3.kp).trans hM4.kp
  have k24 := hM3.kp.trans hM4.kp
  have h1 := own2 (Blk.kp hM1.at_ k14 (by rintro ((h | h) | h) <;> exact h))
  have h2 := own2 (Blk.kp hM2.at_ k24 (by rintro (h | h) <;> exact h))
  have h3 := own2 (Blk.kp hM3.at_ hM4.kp (fun h => h))
  have h4 : Blk w4 r4 #[.slice (some ⟨r1, 0, none⟩) 2 2, .int .i64 0, .slice (some ⟨r2, 0, none⟩) 2 2, .int .i64 0, .slice (some ⟨r3, 0, none⟩) 2 2, .int .i64 0, .slice none 0 0, .int .i64 3, .slice none 0 0, .int .i64 5, .slice none 0 0, .int .i64 2, .slice none 0 0, .int .i64 9] 47 := hM4.at_
  refine W.fret rfl ⟨⟨some ⟨r4, 0, none⟩, 7, [.slice (some ⟨r1, 0, none⟩) 2 2, .slice (some ⟨r2, 0, none⟩) 2 2, .slice (some ⟨r3, 0, none⟩) 2 2, .slice none 0 0, .slice none 0 0, .slice none 0 0, .slice none 0 0], rfl, fun _ => ⟨_, rfl, fun j hj => ?_⟩, fun j hj => ?_⟩, ((((hM1.kp.trans hM2.kp).trans hM3.kp).trans hM4.kp)).below (Nat.le_refl _) (by rintro i _ (((h | h) | h) | h) <;> exact h)⟩
  · rw [add_lit, add_lit, Nat.zero_add]
    rcases j with _ | _ | _ | _ | _ | _ | _ | j
    · exact ⟨h4.cell rfl, h4.cell rfl⟩
    · exact ⟨h4.cell rfl, h4.cell rfl⟩
    · exact ⟨h4.cell rfl, h4.cell rfl⟩
    · exact ⟨h4.cell rfl, h4.cell rfl⟩
    · exact ⟨h4.cell rfl, h4.cell rfl⟩
    · exact ⟨h4.cell rfl, h4.cell rfl⟩
    · exact ⟨h4.cell rfl, h4.cell rfl⟩
    · simp at hj; omega
  · rcases j with _ | _ | _ | _ | _ | _ | _ | j
    · exact h1
    · exact h2
    · exact h3
    · exact Sl.nil _ _ _ _ _
    · exact Sl.nil _ _ _ _ _
    · exact Sl.nil _ _ _ _ _
    · exact Sl.nil _ _ _ _ _
    · simp at hj; omega
theorem awake_c (w : World) : Calls Try.prog 22 #[] w (Ret fun r w' => r = .bool true ∧ Below w.heap.size w w') := by
  refine calls_W (vs := []) Try.func22 rfl (by kernel_rfl) rfl ?_
  have hl : smp.length ≤ 9223372036854775807 := by decide
  (repeat (first | with_reducible refine W.seq ?_ | with_reducible refine Ops.nil ?_ | with_reducible refine W.region ?_ | refine z_p (kk := ?_)))
  refine Ops.call rfl rfl rfl rfl rfl (sample_c w) (fun v1 w1 hR => ?_)
  obtain ⟨hT1, hb1⟩ := hR
  refine Ops.call rfl rfl rfl rfl rfl (value_c hT1 hl) (fun r w2 hR => ?_)
  obtain ⟨hb12, hR⟩ := hR
  rw [smp_game] at hR
  obtain ⟨vs, hvs, rfl⟩ := hR
  rw [smp_val hvs]
  have hb2 := hb1.trans (hb12.mono hb1.size)
  clear hvs hT1
  (repeat (first | with_reducible refine W.seq ?_ | with_reducible refine Ops.nil ?_ | with_reducible refine W.region ?_ | refine z_p (kk := ?_)))
  refine Ops.call rfl rfl rfl rfl rfl (sample_c w2) (fun v3 w3 hR => ?_)
  obtain ⟨hT3, hb23⟩ := hR
  have hb3 := hb2.trans (hb23.mono hb2.size)
  refine Ops.call rfl rfl rfl rfl rfl (search_c hT3 hl) (fun r w4 hR => ?_)
  obtain ⟨hb34, hR⟩ := hR
  have hb4 := hb3.trans (hb34.mono hb3.size)
  simp only [SearchR, smp_game, Option.elim, smp_srch] at hR
  obtain ⟨lv, rfl, hI4⟩ := hR
  clear hT3
  (repeat (first | with_reducible refine W.seq ?_ | with_reducible refine Ops.nil ?_ | with_reducible refine W.region ?_ | refine z_p (kk := ?_)))
  refine Ops.call rfl rfl rfl rfl rfl (sample_c w4) (fun v5 w5 hR => ?_)
  obtain ⟨hT5, hb45⟩ := hR
  have hb5 := hb4.trans (hb45.mono hb4.size)
  refine Ops.call rfl rfl rfl rfl rfl (proof_c hT5 hl) (fun r w6 hR => ?_)
  obtain ⟨hb56, hR⟩ := hR
  have hb6 := hb5.trans (hb56.mono hb5.size)
  simp only [ProvedR, smp_game] at hR
  rw [if_pos (by decide)] at hR
  simp only [Option.elim] at hR
  obtain ⟨es, hes, _, hR⟩ := hR
  rw [smp_proof hes] at hR
  rcases hR with ⟨h, _⟩ | ⟨_, pv, rfl, hI6⟩
  · exact absurd h (by decide)
  clear hT5 hes
  (repeat (first | with_reducible refine W.seq ?_ | with_reducible refine Ops.nil ?_ | with_reducible refine W.region ?_ | refine z_p (kk := ?_)))
  refine Ops.call rfl rfl rfl rfl rfl (sample_c w6) (fun v7 w7 hR => ?_)
  obtain ⟨hT7, hb67⟩ := hR
  have hb7 := hb6.trans (hb67.mono hb6.size)
  refine Ops.call rfl rfl rfl rfl rfl (numbers_c hT7 hl (Sl.nil (Value.int .i64) (0 : Int) w7 none 0)) (fun r w8 hR => ?_)
  obtain ⟨hb78, hR⟩ := hR
  have hb8 := hb7.trans (hb78.mono hb7.size)
  simp only [NumbersR, smp_game] at hR
  rw [if_pos (by decide)] at hR
  simp only [Option.elim] at hR
  obtain ⟨y, z, hy, hz, rfl⟩ := hR
  rw [smp_num hy, smp_num hz]
  have hI48 := Sl.below hI4.sl (hb45.trans ((hb56.trans ((hb67.trans (hb78.mono hb67.size)).mono hb56.size)).mono hb45.size))
  have hI68 := Sl.below hI6.sl (hb67.trans (hb78.mono hb67.size))
  clear hT7 hy hz
  (repeat (first | with_reducible refine W.seq ?_ | with_reducible refine Ops.nil ?_ | with_reducible refine W.region ?_ | refine z_p (kk := ?_) | refine z_y (kk := ?_)))
  refine Ops.bsG (cs := #[.int .i64 3, .int .i64 4, .int .i64 5]) rfl rfl rfl rfl rfl rfl rfl rfl rfl (by kernel_rfl) (fun w9 r9 hM9 => ?_)
  have hb9 : Below w.heap.size w w9 := Below.at_ hb8 hM9.kp (fun _ e => e.elim)
  have h9 : SlI w9 (.slice (some ⟨r9, 0, none⟩) 3 3) [3, 4, 5] := sl3 hM9.at_
  have hI49 := hI48.kp hM9.kp (fun _ _ e => e)
  have hI69 := hI68.kp hM9.kp (fun _ _ e => e)
  (repeat (first | refine z_y (kk := ?_)))
  refine Ops.call rfl rfl rfl rfl rfl (ints_c hI49 h9) (fun r w10 hR => ?_)
  obtain ⟨rfl, hb910⟩ := hR
  rw [decide_eq_true (rfl : ([3, 4, 5] : List Int) = [3, 4, 5])]
  have hb10 := hb9.trans (hb910.mono hb9.size)
  (repeat (first | refine z_p (kk := ?_) | refine z_y (kk := ?_)))
  refine Ops.bs2 rfl rfl rfl rfl rfl rfl rfl rfl rfl rfl rfl (fun w11 r11 hM11 => ?_)
  have hb11 : Below w.heap.size w w11 := Below.at_ hb10 hM11.kp (fun _ e => e.elim)
  have h11 : SlI w11 (.slice (some ⟨r11, 0, none⟩) 2 2) [3, 4] := own2 hM11.at_
  have hI611 := (Sl.below hI69 hb910).kp hM11.kp (fun _ _ e => e)
  (repeat (first | refine z_y (kk := ?_)))
  refine Ops.call rfl rfl rfl rfl rfl (ints_c hI611 h11) (fun r w12 hR => ?_)
  obtain ⟨rfl, hb1112⟩ := hR
  have he : ((2, [3, 4]) : Ef).2.mergeSort (fun x y => decide (x ≤ y)) = [3, 4] := List.mergeSort_of_pairwise (by simp)
  rw [decide_eq_true he]
  have hb12' := hb11.trans (hb1112.mono hb11.size)
  (repeat (first | with_reducible refine Ops.nil ?_ | refine z_p (kk := ?_) | refine z_y (kk := ?_)))
  refine W.cond rfl (fun hc => ?_) (fun hc => ?_)
  · simp at hc
  (repeat (first | with_reducible refine W.seq ?_ | with_reducible refine W.skip ?_))
  refine W.cond rfl (fun hc => ?_) (fun hc => ?_)
  · simp at hc
  (repeat (first | with_reducible refine W.seq ?_ | with_reducible refine Ops.nil ?_ | with_reducible refine W.region ?_ | refine z_p (kk := ?_) | with_reducible refine W.skip ?_))
  exact W.fret rfl ⟨rfl, hb12'⟩
theorem app_getD {α : Type} {xs : List α} {z d : α} {j : Nat} (h : j < xs.length) : (xs ++ [z]).getD j d = xs.getD j d := by rw [List.getD_eq_getElem?_getD, List.getElem?_append_left h, ← List.getD_eq_getElem?_getD]
theorem app_last {α : Type} {xs : List α} {z d : α} {n : Nat} (h : n = xs.length) : (xs ++ [z]).getD n d = z := by subst h; simp [List.getD_eq_getElem?_getD]
end Go.Proofs.Ytdiljpnfochndaa
namespace Go.Proofs.Ytdiljpnfochndaa
open Go Go.RowKit Go.Proofs.Ytdiljpnfochndaa.VW
open Go.Proofs.Ytdiljpnfochndaa.HP (Nd kid wor leafB rd evB gameOf gameOf_TF ValP far TF Dn k_)
attribute [local irreducible] W Ops
theorem evB_kid {l : List Nd} {dep : List Int} (hT : TF l dep) {i j : Nat} (hi : i < l.length) (hj : j < (kid l i).length) : evB dep ((kid l i).getD j 0) = !evB dep i := by
  have h1 := hT.kdep i j hi hj
  have h2 := hT.dbd i
  simp only [k_] at h1
  unfold evB
  rw [h1]
  simp only [rd, Int.toNat_natCast]
  generalize dep.getD i 0 = d at *
  rw [Int.tmod_eq_emod_of_nonneg (by omega), Int.tmod_eq_emod_of_nonneg (by omega)]
  by_cases h : d % 2 = 0
  · rw [h, show (d + 1) % 2 = 1 by omega]; rfl
  · rw [show d % 2 = 1 by omega, show (d + 1) % 2 = 0 by omega]; rfl
/-- Which nodes are known after j children of node i. -/
def EvI (l : List Nd) (dep : List Int) (i j : Nat) (bs : List Bool) : Prop := bs.length = l.length ∧ bs.getD 0 false = true ∧ ∀ a b, Dn i j a b → b < (kid l a).length → bs.getD (k_ l a b).toNat false = evB dep (k_ l a b)
theorem EvI.step {l : List Nd} {dep : List Int} (hT : TF l dep) {i j : Nat} {bs : List Bool} (hi : i < l.length) (hj : j < (kid l i).length) (h : EvI l dep i j bs) : EvI l dep i (j + 1) (bs.set ((kid l i).getD j 0).toNat (!evB dep i)) := by
  obtain ⟨h1, h2, h3⟩ := h
  have hk := hT.kin i j hi hj
  simp only [k_] at hk
  refine ⟨by simpa using h1, by rw [lgetD_set_ne (by omega)]; exact h2, fun a b hd hb => ?_⟩
  by_cases e : a = i ∧ b = j
  · obtain ⟨rfl, rfl⟩ := e
    unfold k_
    rw [lgetD_set_eq (by omega), evB_kid hT hi hj]
  · have hd' : Dn i j a b := by unfold Dn at *; omega
    have ha : a < l.length := by unfold Dn at hd'; omega
    have hk2 := hT.kin a b ha hb
    rw [lgetD_set_ne (fun e2 => e (hT.inj a b i j ha hb hi hj (by simp only [k_] at *; omega)))]
    exact h3 a b hd' hb
theorem EvI.at_ {l : List Nd} {dep : List Int} (hT : TF l dep) {i j : Nat} {bs : List Bool} (hi : i < l.length) (h : EvI l dep i j bs) (h0 : dep.getD 0 0 = 0) : bs.getD i false = evB dep i := by
  obtain ⟨h1, h2, h3⟩ := h
  by_cases e : i = 0
  · subst e
    rw [h2]
    unfold evB
    simp only [rd]
    rw [show ((0 : Nat) : Int).toNat = 0 from rfl, h0]
    rfl
  · obtain ⟨a, b, ha, hb, hk⟩ := hT.cov i (by omega) hi
    have := hT.kin a b ha hb
    have := h3 a b (.inl (by omega)) hb
    rw [hk] at this
    simpa using this
theorem even_c {w : World} {v : Value} {l : List Nd} {dep : List Int} (hTr : TreeM w v l) (hT : TF l dep) :
    Calls Try.prog 52 #[v] w (Ret fun r w' => ∃ bs : List Bool, OI 4 Value.bool w w' r bs ∧ bs.length = l.length ∧ ∀ i : Nat, i < l.length → bs.getD i false = evB dep i) := by
  obtain ⟨At, ct, rfl⟩ := hTr.sl
  have hn := hT.n60
  have hn1 := hT.n1
  have hd0 : dep.getD 0 0 = 0 := by have := hT.dbd 0; omega
  refine calls_W (vs := [_]) Try.func52 rfl (by kernel_rfl) rfl ?_
  (repeat (first | with_reducible refine W.seq ?_ | with_reducible refine Ops.nil ?_ | with_reducible refine W.region ?_ | refine z_p (kk := ?_) | refine z_l (kk := ?_)))
  refine Ops.mkS rfl rfl rfl rfl rfl rfl rfl rfl rfl (by omega) (by simp; omega) (fun w1 dr hdr k1 hdl hown => ?_)
  simp only [Int.toNat_natCast] at hown ⊢
  have hb1 : Below w.heap.size w w1 := k1.below (Nat.le_refl _) (fun _ _ e => e)
  have hm : (madeCells (Value.bool false).cells (l.length * 1)).toList = (List.replicate l.length false).map Value.bool := by
    rw [madeCells_one rfl, Nat.mul_one, List.map_replicate]
  have hO1 : OI 4 Value.bool w w1 (.slice (some ⟨dr, 0, none⟩) l.length l.length) (List.replicate l.length false) := by
    refine ⟨hb1, ?_, fun k hk => by simp [Value.ownBlock] at hk; omega⟩
    rw [← hm, List.length_replicate]
    exact hown
  (repeat (first | with_reducible refine W.seq ?_ | with_reducible refine Ops.nil ?_ | with_reducible refine W.region ?_ | refine z_p (kk := ?_)))
  refine Ops.wrS rfl rfl rfl rfl rfl rfl rfl rfl rfl rfl rfl rfl (by simp) rfl hO1.own (by omega) (by simp; omega) (fun w2 p hown2 k2 _ => ?_)
  have hO2 : OI 4 Value.bool w w2 (.slice (some ⟨dr, 0, none⟩) l.length l.length) ((List.replicate l.length false).set 0 true) :=
    ⟨Below.at_ hb1 k2 (fun i hi => hO1.ge i hi), by rw [List.length_set, List.map_set]; exact hown2, hO1.ge⟩
  have hE2 : EvI l dep 0 0 ((List.replicate l.length false).set 0 true) := ⟨by simp, lgetD_set_eq (by simp; omega), fun a b hd => by unfold Dn at hd; omega⟩
  generalize (List.replicate l.length false).set 0 true = bs2 at *
  clear hO1 hown hm hown2 k2 k1
  (repeat (first | with_reducible refine W.seq ?_ | with_reducible refine Ops.nil ?_ | with_reducible refine W.region ?_ | refine z_p (kk := ?_) | with_reducible refine W.block ?_))
  refine W.loop (fun m ρ w3 => ∃ (i : Nat) (bs : List Bool), m = l.length - i ∧ i ≤ l.length ∧ ρ = [(0, .slice At l.length ct), (3, .slice (some ⟨dr, 0, none⟩) l.length l.length), (4, .int .i64 i)] ∧ OI 4 Value.bool w w3 (.slice (some ⟨dr, 0, none⟩) l.length l.length) bs ∧ EvI l dep i 0 bs)
    ⟨_, _, ⟨0, _, rfl, Nat.zero_le _, rfl, hO2, hE2⟩, (by repeat (first | exact trivial | refine And.intro rfl ?_))⟩ ?_
  clear hO2 hE2
  rintro m ρ w3 ⟨i, bs, rfl, hi, rfl, hO, hE⟩
  (repeat (first | with_reducible refine W.seq ?_ | with_reducible refine Ops.nil ?_ | with_reducible refine W.region ?_ | refine z_p (kk := ?_) | refine z_l (kk := ?_)))
  refine W.cond rfl (fun hc => ?_) (fun hc => ?_)
  · have hlt : i < l.length := by simp at hc; omega
    (repeat (first | with_reducible refine W.seq ?_ | with_reducible refine Ops.nil ?_ | with_reducible refine W.region ?_ | refine z_p (kk := ?_) | with_reducible refine W.skip ?_ | with_reducible refine W.block ?_))
    refine W.loop (fun m ρ w4 => ∃ (j : Nat) (bs : List Bool), m = (kid l i).length - j ∧ j ≤ (kid l i).length ∧ ρ = [(0, .slice At l.length ct), (3, .slice (some ⟨dr, 0, none⟩) l.length l.length), (4, .int .i64 i), (5, .int .i64 j)] ∧ OI 4 Value.bool w w4 (.slice (some ⟨dr, 0, none⟩) l.length l.length) bs ∧ EvI l dep i j bs)
      ⟨_, _, ⟨0, _, rfl, Nat.zero_le _, rfl, hO, hE⟩, (by repeat (first | exact trivial | refine And.intro rfl ?_))⟩ ?_
    rintro m ρ w4 ⟨j, bs, rfl, hj, rfl, hO, hE⟩
    have hkl := hT.klen i hlt
    (repeat (first | with_reducible refine W.seq ?_ | with_reducible refine W.region ?_ | refine z_p (kk := ?_)))
    refine Ops.rdK rfl rfl rfl rfl rfl rfl rfl rfl rfl rfl rfl rfl rfl rfl rfl hTr hO.bel (by omega) (by omega) (fun cv p q hcv => ?_)
    obtain ⟨Ac, cc, rfl⟩ := Sl.sl hcv
    (repeat (first | with_reducible refine Ops.nil ?_ | refine z_p (kk := ?_) | refine z_l (kk := ?_)))
    refine W.cond rfl (fun hc => ?_) (fun hc => ?_)
    · have hjl : j < (kid l i).length := by simp at hc; omega
      have hkin := hT.kin i j hlt hjl
      simp only [k_] at hkin
      have hbi := hE.at_ hT hlt hd0
      have hst := hE.step hT hlt hjl
      have hel := hE.1
      (repeat (first | with_reducible refine W.seq ?_ | with_reducible refine W.skip ?_ | with_reducible refine W.block ?_))
      refine W.tail' 14 rfl (by kernel_rfl) (fun w5 k5 _ => ?_)
      have hO5 := hO.kp k5 (fun _ e => e.elim)
      (repeat (first | refine z_p (kk := ?_)))
      refine Ops.rdK rfl rfl rfl rfl rfl rfl rfl rfl rfl rfl rfl rfl rfl rfl rfl hTr hO5.bel (by omega) (by omega) (fun cv2 p q hcv2 => ?_)
      (repeat (first | refine z_p (kk := ?_)))
      refine Ops.rdS (enc := Value.int .i64) (z := (0 : Int)) rfl rfl rfl rfl rfl rfl rfl rfl rfl rfl rfl (Sl.below hcv2 hO5.bel) (by omega) (by omega) (fun p => ?_)
      simp only [Int.toNat_natCast]
      generalize (kid l i).getD j 0 = cj at *
      (repeat (first | refine z_p (kk := ?_)))
      refine Ops.rdS (enc := Value.bool) (z := false) rfl rfl rfl rfl rfl rfl rfl rfl rfl rfl rfl hO5.sl (by omega) (by omega) (fun p => ?_)
      simp only [Int.toNat_natCast]
      rw [hbi]
      (repeat (first | refine z_p (kk := ?_)))
      refine Ops.nilS rfl ?_
      refine Ops.wrS rfl rfl rfl rfl rfl rfl rfl rfl rfl rfl rfl rfl (by simp) rfl hO5.own (by omega) (by omega) (fun w6 p hown6 k6 _ => ?_)
      have hO6 : OI 4 Value.bool w w6 (.slice (some ⟨dr, 0, none⟩) l.length l.length) (bs.set cj.toNat (!evB dep i)) :=
        ⟨Below.at_ hO5.bel k6 (fun i hi => hO5.ge i hi), by rw [List.length_set, List.map_set]; exact hown6, hO5.ge⟩
      (repeat (first | with_reducible refine Ops.nil ?_ | with_reducible refine W.region ?_ | refine z_p (kk := ?_) | refine z_a (kk := ?_) | with_reducible refine W.endb ?_))
      exact W.endl ⟨_, _, ⟨⟨j + 1, _, rfl, by omega, rfl, hO6, hst⟩, by omega⟩, (by repeat (first | exact trivial | refine And.intro rfl ?_))⟩
    · have hjl : j = (kid l i).length := by simp at hc; omega
      subst hjl
      have hE' : EvI l dep (i + 1) 0 bs := ⟨hE.1, hE.2.1, fun a b hd hb => hE.2.2 a b (by unfold Dn at *; by_cases e : a = i; subst e; exact .inr ⟨rfl, hb⟩; omega) hb⟩
      (repeat (first | with_reducible refine Ops.nil ?_ | with_reducible refine W.region ?_ | refine z_p (kk := ?_) | refine z_a (kk := ?_) | with_reducible refine W.endb ?_ | refine W.exit rfl ?_))
      exact W.endl ⟨_, _, ⟨⟨i + 1, _, rfl, by omega, rfl, hO, hE'⟩, by omega⟩, (by repeat (first | exact trivial | refine And.intro rfl ?_))⟩
  · have hlt : i = l.length := by simp at hc; omega
    subst hlt
    (repeat (first | with_reducible refine W.seq ?_ | with_reducible refine Ops.nil ?_ | with_reducible refine W.region ?_ | refine z_p (kk := ?_) | refine W.exit rfl ?_))
    refine W.fret rfl ⟨bs, hO, hE.1, fun c hc => ?_⟩
    exact EvI.at_ hT (i := c) (j := 0) hc ⟨hE.1, hE.2.1, fun a b hd hb => hE.2.2 a b (by unfold Dn at *; omega) hb⟩ hd0
end Go.Proofs.Ytdiljpnfochndaa
/- What a tree must fulfil; and that it is one then. -/
namespace Go.Proofs.Ytdiljpnfochndaa.HP
structure TK (l : List Nd) : Prop where
  n1 : 1 ≤ l.length
  n60 : l.length ≤ 60
  kin : ∀ a b : Nat, a < l.length → b < (kid l a).length → (a : Int) < k_ l a b ∧ k_ l a b < l.length
  inj : ∀ a b a' b' : Nat, a < l.length → b < (kid l a).length → a' < l.length → b' < (kid l a').length → k_ l a b = k_ l a' b' → a = a' ∧ b = b'
  cov : ∀ c : Nat, 1 ≤ c → c < l.length → ∃ a b : Nat, a < l.length ∧ b < (kid l a).length ∧ k_ l a b = c
  wor : ∀ a : Nat, a < l.length → -100 ≤ wor l a ∧ Go.Proofs.Ytdiljpnfochndaa.HP.wor l a ≤ 100 ∧ (0 < (kid l a).length → Go.Proofs.Ytdiljpnfochndaa.HP.wor l a = 0)
theorem TF.tk {l : List Nd} {dep : List Int} (h : TF l dep) : TK l := ⟨h.n1, h.n60, h.kin, h.inj, h.cov, h.wor⟩
theorem kids_go {l : List Nd} (hT : TK l) {i : Nat} (hi : i < l.length) (d : Nat) : ∀ (j : Nat) (dep : List Int), (kid l i).length - j = d → j ≤ (kid l i).length → Inv l i j dep → j ≤ cnt dep → ∃ dep', kidsStep l.length i ((kid l i).drop j) dep = some dep' := by
  induction d with
  | zero =>
    intro j dep hd hj h hjc
    rw [List.drop_eq_nil_of_le (by omega)]
    exact ⟨dep, rfl⟩
  | succ d ih =>
    intro j dep hd hj h hjc
    have hlt : j < (kid l i).length := by omega
    rw [kids_at _ _ _ _ _ hlt]
    have hk := hT.kin i j hi hlt
    have h3 : rd dep (k_ l i j) ≤ 0 := by
      by_cases e : rd dep (k_ l i j) ≤ 0
      · exact e
      · have hp : 0 < dep.getD (k_ l i j).toNat 0 := by simp only [rd] at e; omega
        obtain ⟨a, b, h1, h2, h4⟩ := h.p2 _ hp
        have ha : a < l.length := by unfold Dn at h1; omega
        have := hT.inj a b i j ha h2 hi hlt (by rw [h4]; omega)
        unfold Dn at h1
        omega
    have hc : (i : Int) + 1 ≤ (kid l i).getD j 0 ∧ (kid l i).getD j 0 ≤ (l.length : Int) - 1 ∧ rd dep ((kid l i).getD j 0) ≤ 0 := ⟨by have := hk.1; simp only [k_] at this; omega, by have := hk.2; simp only [k_] at this; omega, h3⟩
    rw [if_pos hc]
    have hbi := h.p4 i
    have h3' := h3
    simp only [rd] at h3'
    have hcc : cnt (dep.set (k_ l i j).toNat (rd dep i + 1)) = cnt dep + 1 := cnt_set (by rw [h.len]; omega) h3' (by simp only [rd, Int.toNat_natCast]; omega)
    exact ih (j + 1) _ (by omega) (by omega) (inv_step h hi hlt hc.1 hc.2.1 hc.2.2 (fun b hb => by omega) hjc) (by simp only [k_] at hcc; rw [hcc]; omega)
theorem node_step {l : List Nd} {i : Nat} {dep dep1 : List Int} (hlt : i < l.length) (h : NInv l i dep) (hc : ¬ ((0 < (i : Int) ∧ rd dep i = 0) ∨ ¬ (-100 ≤ wor l i ∧ wor l i ≤ 100) ∨ (0 < (kid l i).length ∧ wor l i ≠ 0))) (h1 : kidsStep l.length i (kid l i) dep = some dep1) : NInv l (i + 1) dep1 := by
  have hk := kids_inv hlt _ 0 dep dep1 rfl (Nat.zero_le _) h.inv (Nat.zero_le _) (by simpa using h1)
  have hkeep := kids_keep _ 0 dep dep1 rfl h.inv.len (by simpa using h1)
  refine ⟨⟨hk.len, ?_, ?_, ?_, hk.p4, ?_⟩, ?_, ?_⟩
  · intro a b hd hl; exact hk.p1 a b (by unfold Dn at *; by_cases e : a = i; subst e; exact .inr ⟨rfl, hl⟩; omega) hl
  · intro c hc; obtain ⟨a, b, h1, h2, h3⟩ := hk.p2 c hc; exact ⟨a, b, by unfold Dn at *; omega, h2, h3⟩
  · intro a b a' b' hd hl hd' hl' he
    exact hk.p3 a b a' b' (by unfold Dn at *; by_cases e : a = i; subst e; exact .inr ⟨rfl, hl⟩; omega) hl (by unfold Dn at *; by_cases e : a' = i; subst e; exact .inr ⟨rfl, hl'⟩; omega) hl' he
  · intro a b hd hl; exact hk.p5 a b (by unfold Dn at *; by_cases e : a = i; subst e; exact .inr ⟨rfl, hl⟩; omega) hl
  · intro c hc1 hc2
    rw [hkeep c (by omega)]
    by_cases e : c = i
    · subst e
      have := h.inv.p4 c
      simp only [rd, Int.toNat_natCast] at hc
      omega
    · exact h.pos c hc1 (by omega)
  · intro a ha
    by_cases e : a = i
    · subst e
      by_cases h1 : -100 ≤ Go.Proofs.Ytdiljpnfochndaa.HP.wor l a ∧ Go.Proofs.Ytdiljpnfochndaa.HP.wor l a ≤ 100
      · refine ⟨h1.1, h1.2, fun hp => ?_⟩
        by_cases h2 : Go.Proofs.Ytdiljpnfochndaa.HP.wor l a = 0
        · exact h2
        · exact absurd (.inr (.inr ⟨hp, h2⟩)) hc
      · exact absurd (.inr (.inl h1)) hc
    · exact h.wor a (by omega)
theorem nodes_go {l : List Nd} (hT : TK l) (d : Nat) : ∀ (i : Nat) (dep : List Int), l.length - i = d → i ≤ l.length → NInv l i dep → ∃ dep', nodesStep l.length i (l.drop i) dep = some dep' := by
  induction d with
  | zero =>
    intro i dep hd hi h
    rw [List.drop_eq_nil_of_le (by omega)]
    exact ⟨dep, rfl⟩
  | succ d ih =>
    intro i dep hd hi h
    have hlt : i < l.length := by omega
    rw [nodes_at _ _ _ _ hlt]
    have hw := hT.wor i hlt
    have hc : ¬ ((0 < (i : Int) ∧ rd dep i = 0) ∨ ¬ (-100 ≤ wor l i ∧ wor l i ≤ 100) ∨ (0 < (kid l i).length ∧ wor l i ≠ 0)) := by
      rintro (⟨h1, h2⟩ | h1 | ⟨h1, h2⟩)
      · obtain ⟨a, b, ha, hb, he⟩ := hT.cov i (by omega) hlt
        have hk := hT.kin a b ha hb
        have := h.inv.p1 a b (by unfold Dn; omega) hb
        rw [he] at this
        have h4 := h.inv.p4 a
        have h5 := this.2.2
        simp only [rd, Int.toNat_natCast] at h5 h2
        omega
      · exact h1 ⟨hw.1, hw.2.1⟩
      · exact h2 (hw.2.2 h1)
    rw [if_neg hc]
    obtain ⟨dep1, h1⟩ := kids_go hT hlt _ 0 dep rfl (Nat.zero_le _) h.inv (Nat.zero_le _)
    rw [List.drop_zero] at h1
    rw [h1]
    exact ih (i + 1) dep1 (by omega) (by omega) (node_step hlt h hc h1)
theorem cnt_all {dep : List Int} (h0 : dep.getD 0 0 ≤ 0) (h : ∀ c : Nat, 1 ≤ c → c < dep.length → 0 < dep.getD c 0) (hl : 1 ≤ dep.length) : 1 + cnt dep = dep.length := by
  cases dep with
  | nil => simp at hl
  | cons a r =>
    simp only [List.getD_cons_zero] at h0
    have : r.countP (fun x => decide (0 < x)) = r.length := by
      rw [List.countP_eq_length]
      intro x hx
      obtain ⟨i, hi, rfl⟩ := List.mem_iff_getElem.1 hx
      have := h (i + 1) (by omega) (by simp; omega)
      simp only [List.getD_cons_succ] at this
      rw [List.getD_eq_getElem?_getD, List.getElem?_eq_getElem hi] at this
      simpa using this
    simp only [cnt, List.countP_cons, this, List.length_cons]
    rw [if_neg (by simpa using h0)]
    omega
theorem TK.game {l : List Nd} (hT : TK l) : ∃ dep, gameOf l = some dep := by
  have hz : ∀ c : Nat, (List.replicate l.length (0 : Int)).getD c 0 = 0 := by
    intro c; rw [List.getD_eq_getElem?_getD, List.getElem?_replicate]; split <;> rfl
  have hI : NInv l 0 (List.replicate l.length 0) := ⟨⟨by simp, fun a b hd => by unfold Dn at hd; omega, fun c hc => by rw [hz] at hc; omega, fun a b a' b' hd => by unfold Dn at hd; omega, fun c => by rw [hz]; omega, fun a b hd => by unfold Dn at hd; omega⟩, fun c h1 h2 => by omega, fun a ha => by omega⟩
  obtain ⟨dep, hd⟩ := nodes_go hT _ 0 _ rfl (Nat.zero_le _) hI
  have hE := nodes_inv _ 0 _ dep rfl (Nat.zero_le _) hI hd
  rw [List.drop_zero] at hd
  refine ⟨dep, ?_⟩
  unfold gameOf
  rw [if_pos ⟨hT.n1, hT.n60⟩]
  have hd' : nodesStep (l.length : Int) 0 l (List.replicate l.length 0) = some dep := hd
  rw [hd', Option.bind_some, if_pos]
  rw [← hE.inv.len]
  exact cnt_all (by have := hE.inv.p4 0; omega) (fun c h1 h2 => hE.pos c h1 (by rw [← hE.inv.len]; exact h2)) (by rw [hE.inv.len]; exact hT.n1)
end Go.Proofs.Ytdiljpnfochndaa.HP
