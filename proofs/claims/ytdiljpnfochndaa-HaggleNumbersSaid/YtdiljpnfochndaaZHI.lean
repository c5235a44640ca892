/- A part of the walk: what this seat's statements share. -/
import Derived.Test.YtdiljpnfochndaaZHF
import Derived.Test.YtdiljpnfochndaaZV9
set_option linter.unusedSectionVars false
set_option linter.unusedVariables false
set_option linter.unusedSimpArgs false
namespace Go.Proofs.Ytdiljpnfochndaa
open Go Go.RowKit Go.Proofs.Ytdiljpnfochndaa.VW
open Go.Proofs.Ytdiljpnfochndaa.HP (Nd kid wor leafB rd evB TF far Ef ed pickF joinF NE NeedP GoodE gameOf gameOf_TF)
attribute [local irreducible] W Ops
theorem pick_ne {es : List Ef} : ∀ (cs : List Int) (a : Ef), (∀ c ∈ cs, (ed es c).1 < far → (ed es c).2 ≠ []) → (a.1 < far → a.2 ≠ []) → (cs.foldl (pickF es) a).1 < far → (cs.foldl (pickF es) a).2 ≠ []
  | [], a, _, ha, h => ha h
  | c :: r, a, hc, ha, h => by
    refine pick_ne r (pickF es a c) (fun x hx => hc x (by simp [hx])) ?_ h
    unfold pickF
    split
    · exact hc c (by simp)
    · exact ha
theorem join_pre {es : List Ef} : ∀ (cs : List Int) (a : Ef), (∀ c ∈ cs, 0 ≤ (ed es c).1) → a.1 ≤ far → a.1 ≤ (cs.foldl (joinF es) a).1 ∧ a.2.length ≤ (cs.foldl (joinF es) a).2.length
  | [], a, _, _ => ⟨by simp, by simp⟩
  | c :: r, a, hc, ha => by
    have h := join_pre r (joinF es a c) (fun x hx => hc x (by simp [hx])) (by simp only [joinF]; omega)
    have h0 := hc c (by simp)
    simp only [joinF, List.length_append] at h
    simp only [List.foldl_cons, joinF]
    omega
theorem NE_ne {l : List Nd} {dep : List Int} {mx : Bool} {lf : Int → Int} {es : List Ef} {j : Int} (h0 : ∀ c ∈ kid l j, 0 ≤ (ed es c).1) (hc : ∀ c ∈ kid l j, (ed es c).1 < far → (ed es c).2 ≠ []) (h : (NE l dep mx lf es j).1 < far) : (NE l dep mx lf es j).2 ≠ [] := by
  unfold NE at h ⊢
  split at h
  · rename_i hl; rw [if_pos hl]; simp
  · rename_i hl
    rw [if_neg hl]
    split at h
    · rename_i he
      rw [if_pos he]
      exact pick_ne _ _ hc (fun h => by simp at h) h
    · rename_i he
      rw [if_neg he]
      cases hk : kid l j with
      | nil => unfold leafB at hl; rw [hk] at hl; simp at hl
      | cons c r =>
        rw [hk] at h hc h0
        simp only [List.foldl_cons] at h ⊢
        have hp := join_pre r (joinF es (0, []) c) (fun x hx => h0 x (by simp [hx])) (by simp only [joinF]; omega)
        have h1 := h0 c (by simp)
        simp only [joinF] at hp h ⊢
        have hcl : (ed es c).1 < far := by
          have := hp.1
          omega
        have hne := hc c (by simp) hcl
        intro e
        have h2 := hp.2
        rw [e] at h2
        simp at h2
        exact hne h2
theorem NeedP.ne {l : List Nd} {dep : List Int} {mx : Bool} {lf : Int → Int} {es : List Ef} (hT : TF l dep) (hN : NeedP l dep mx lf es) (h0 : ∀ i : Nat, leafB l i = true → 0 ≤ lf i ∧ lf i ≤ far) : ∀ j : Nat, j < l.length → (0 ≤ (es.getD j (0, [])).1 ∧ (es.getD j (0, [])).1 ≤ far) ∧ ((es.getD j (0, [])).1 < far → (es.getD j (0, [])).2 ≠ []) := by
  have key : ∀ d j : Nat, l.length - j = d → j < l.length → (0 ≤ (es.getD j (0, [])).1 ∧ (es.getD j (0, [])).1 ≤ far) ∧ ((es.getD j (0, [])).1 < far → (es.getD j (0, [])).2 ≠ []) := by
    intro d
    induction d using Nat.strongRecOn with
    | _ d ih =>
      intro j hd hj
      have hk : ∀ c ∈ kid l j, (0 ≤ (ed es c).1 ∧ (ed es c).1 ≤ far) ∧ ((ed es c).1 < far → (ed es c).2 ≠ []) := fun c hc => by
        obtain ⟨h1, h2⟩ := Go.Proofs.Ytdiljpnfochndaa.HP.mem_kid hT hj hc
        exact ih (l.length - c.toNat) (by omega) c.toNat rfl (by omega)
      rw [hN.at_ j hj]
      exact ⟨Go.Proofs.Ytdiljpnfochndaa.HP.NE_bd (h0 j) fun c hc => (hk c hc).1, NE_ne (fun c hc => (hk c hc).1.1) fun c hc => (hk c hc).2⟩
  exact fun j hj => key _ j rfl hj
theorem proved_c {w : World} {g : Nat} {l : List Nd} {dep : List Int} {fv : Value} {lf : Int → Int} {mx : Bool} (hG : Game w g l dep) (hT : TF l dep) (hf : Clo w fv lf (fun i => 0 ≤ i ∧ i < l.length ∧ leafB l i = true))
    (hlf : ∀ i : Nat, leafB l i = true → 0 ≤ lf i ∧ lf i ≤ far) :
    Calls Try.prog 57 #[.pointer (some ⟨g, 0, none⟩), .bool mx, fv] w (Ret fun r w' => Below w.heap.size w w' ∧ ∃ es, NeedP l dep mx lf es ∧ GoodE l 0 (es.getD 0 (0, [])).2 ∧
      ((far ≤ (es.getD 0 (0, [])).1 ∧ r = .tuple #[.slice none 0 0, .int .i64 6]) ∨ ((es.getD 0 (0, [])).1 < far ∧ ∃ v, r = .tuple #[v, .int .i64 0] ∧ FInv w w' v ((es.getD 0 (0, [])).2.mergeSort fun x y => decide (x ≤ y))))) := by
  refine calls_W (vs := [_, _, _]) Try.func57 rfl (by kernel_rfl) rfl ?_
  (repeat (first | with_reducible refine W.seq ?_ | with_reducible refine Ops.nil ?_ | with_reducible refine W.region ?_ | refine Ops.pu rfl rfl rfl ?_ | refine Ops.ar rfl rfl rfl (by omega) ?_ | refine Ops.yes rfl rfl rfl ?_ | refine Ops.no rfl rfl rfl rfl rfl ?_ | refine Ops.nu rfl rfl rfl rfl ?_ | with_reducible refine W.skip ?_ | with_reducible refine W.endb ?_ | with_reducible refine W.block ?_ | refine W.exit rfl ?_ | refine Ops.len rfl rfl rfl rfl rfl ?_ | refine Ops.flp rfl rfl rfl rfl rfl ?_ | refine Ops.max rfl rfl rfl rfl rfl ?_ | refine Ops.min rfl rfl rfl rfl rfl ?_ | refine Ops.eqB rfl rfl rfl rfl rfl rfl ?_ | refine Ops.neB rfl rfl rfl rfl rfl rfl ?_ | (apply Ops.ldB rfl rfl rfl rfl rfl; assumption; rfl)))
  refine Ops.call rfl rfl rfl rfl rfl (need_c hG hT hf hlf) (fun r w1 hR => ?_)
  obtain ⟨hb1, es, lv, hN, hGd, rfl, hI⟩ := hR
  generalize hem : (es.getD 0 (0, [])).1 = em at *
  generalize hel : (es.getD 0 (0, [])).2 = el at *
  have hne := NeedP.ne hT hN hlf 0 (by have := hT.n1; omega)
  rw [hem, hel] at hne
  obtain ⟨Al, cl, hlv⟩ := Sl.sl hI.sl
  have hone : lv.oneCell' = true := by rw [hlv]; rfl
  have hll := hGd.len
  have hn60 := hT.n60
  refine Ops.alloc rfl rfl rfl rfl (fun w2 b hM => ?_)
  have hbe := hM.r_eq
  refine Ops.st2 rfl rfl rfl rfl rfl rfl rfl hone hM.at_ (fun w3 hu => ?_)
  have hI3 : FInv w w3 lv el := (hI.kp hM.kp (fun i e => e.elim)).kp hu.kp (fun i hi => ⟨by have := hb1.size; omega, fun e => by have := (hI.own.lt i e).2; omega⟩)
  have hB3 := hu.blk
  (repeat (first | with_reducible refine W.seq ?_ | with_reducible refine Ops.nil ?_ | with_reducible refine W.region ?_ | refine Ops.pu rfl rfl rfl ?_ | refine Ops.ar rfl rfl rfl (by omega) ?_ | refine Ops.yes rfl rfl rfl ?_ | refine Ops.no rfl rfl rfl rfl rfl ?_ | refine Ops.nu rfl rfl rfl rfl ?_ | with_reducible refine W.skip ?_ | with_reducible refine W.endb ?_ | with_reducible refine W.block ?_ | refine W.exit rfl ?_ | refine Ops.len rfl rfl rfl rfl rfl ?_ | refine Ops.flp rfl rfl rfl rfl rfl ?_ | refine Ops.max rfl rfl rfl rfl rfl ?_ | refine Ops.min rfl rfl rfl rfl rfl ?_ | refine Ops.eqB rfl rfl rfl rfl rfl rfl ?_ | refine Ops.neB rfl rfl rfl rfl rfl rfl ?_ | (apply Ops.ldB rfl rfl rfl rfl rfl; assumption; rfl)))
  refine W.cond rfl (fun hc => ?_) (fun hc => ?_)
  · (repeat (first | with_reducible refine W.seq ?_ | with_reducible refine Ops.nil ?_ | with_reducible refine W.region ?_ | refine Ops.pu rfl rfl rfl ?_ | refine Ops.ar rfl rfl rfl (by omega) ?_ | refine Ops.yes rfl rfl rfl ?_ | refine Ops.no rfl rfl rfl rfl rfl ?_ | refine Ops.nu rfl rfl rfl rfl ?_ | with_reducible refine W.skip ?_ | with_reducible refine W.endb ?_ | with_reducible refine W.block ?_ | refine W.exit rfl ?_ | refine Ops.len rfl rfl rfl rfl rfl ?_ | refine Ops.flp rfl rfl rfl rfl rfl ?_ | refine Ops.max rfl rfl rfl rfl rfl ?_ | refine Ops.min rfl rfl rfl rfl rfl ?_ | refine Ops.eqB rfl rfl rfl rfl rfl rfl ?_ | refine Ops.neB rfl rfl rfl rfl rfl rfl ?_ | (apply Ops.ldB rfl rfl rfl rfl rfl; assumption; rfl)))
    exact W.fret rfl ⟨hI3.bel, es, hN, hel ▸ hGd, .inl ⟨by rw [hem]; simpa using hc, rfl⟩⟩
  · have hlt : em < far := by simpa using hc
    have hp : 0 < el.length := List.length_pos_iff.2 (hne.2 hlt)
    (repeat (first | with_reducible refine W.seq ?_ | with_reducible refine Ops.nil ?_ | with_reducible refine W.region ?_ | refine Ops.pu rfl rfl rfl ?_ | refine Ops.ar rfl rfl rfl (by omega) ?_ | refine Ops.yes rfl rfl rfl ?_ | refine Ops.no rfl rfl rfl rfl rfl ?_ | refine Ops.nu rfl rfl rfl rfl ?_ | with_reducible refine W.skip ?_ | with_reducible refine W.endb ?_ | with_reducible refine W.block ?_ | refine W.exit rfl ?_ | refine Ops.len rfl rfl rfl rfl rfl ?_ | refine Ops.flp rfl rfl rfl rfl rfl ?_ | refine Ops.max rfl rfl rfl rfl rfl ?_ | refine Ops.min rfl rfl rfl rfl rfl ?_ | refine Ops.eqB rfl rfl rfl rfl rfl rfl ?_ | refine Ops.neB rfl rfl rfl rfl rfl rfl ?_ | (apply Ops.ldB rfl rfl rfl rfl rfl; assumption; rfl)))
    refine Ops.call rfl rfl rfl rfl rfl (sort_c hI3.own hp (by omega)) (fun r w4 hR => ?_)
    obtain ⟨rfl, ho4, k4⟩ := hR
    have hB4 := hB3.kp k4 (fun e => by have := (hI.own.lt b e).2; omega)
    (repeat (first | with_reducible refine W.seq ?_ | with_reducible refine Ops.nil ?_ | with_reducible refine W.region ?_ | refine Ops.pu rfl rfl rfl ?_ | refine Ops.ar rfl rfl rfl (by omega) ?_ | refine Ops.yes rfl rfl rfl ?_ | refine Ops.no rfl rfl rfl rfl rfl ?_ | refine Ops.nu rfl rfl rfl rfl ?_ | with_reducible refine W.skip ?_ | with_reducible refine W.endb ?_ | with_reducible refine W.block ?_ | refine W.exit rfl ?_ | refine Ops.len rfl rfl rfl rfl rfl ?_ | refine Ops.flp rfl rfl rfl rfl rfl ?_ | refine Ops.max rfl rfl rfl rfl rfl ?_ | refine Ops.min rfl rfl rfl rfl rfl ?_ | refine Ops.eqB rfl rfl rfl rfl rfl rfl ?_ | refine Ops.neB rfl rfl rfl rfl rfl rfl ?_ | (apply Ops.ldB rfl rfl rfl rfl rfl; assumption; rfl)))
    refine W.fret rfl ⟨Below.at_ hI3.bel k4 (fun i hi => hI3.ge i hi), es, hN, hel ▸ hGd, .inr ⟨by rw [hem]; exact hlt, lv, rfl, ⟨Below.at_ hI3.bel k4 (fun i hi => hI3.ge i hi), ?_, hI3.ge⟩⟩⟩
    rw [hel, List.length_mergeSort]
    exact ho4
def proofF (l : List Nd) (b i : Int) : Int := costV (decide (b ≤ wor l i))
def refuteF (l : List Nd) (b i : Int) : Int := costV (decide (wor l i ≤ b))
theorem costV_bd (b : Bool) : 0 ≤ costV b ∧ costV b ≤ far := by cases b <;> decide
/-- What Proof and Refute give. -/
def ProvedR (l : List Nd) (mx : Bool) (lf : Int → Int) (b : Int) (w w' : World) (r : Value) : Prop :=
  (if -1000 ≤ b ∧ b ≤ 1000 then gameOf l else none).elim (r = .tuple #[.slice none 0 0, .int .i64 2]) fun dep => ∃ es, NeedP l dep mx lf es ∧ GoodE l 0 (es.getD 0 (0, [])).2 ∧
    ((far ≤ (es.getD 0 (0, [])).1 ∧ r = .tuple #[.slice none 0 0, .int .i64 6]) ∨ ((es.getD 0 (0, [])).1 < far ∧ ∃ v, r = .tuple #[v, .int .i64 0] ∧ FInv w w' v ((es.getD 0 (0, [])).2.mergeSort fun x y => decide (x ≤ y))))
theorem proof_c {w : World} {v : Value} {l : List Nd} {b : Int} (hT : TreeM w v l) (hl : l.length ≤ 9223372036854775807) :
    Calls Try.prog 18 #[v, .int .i64 b] w (Ret fun r w' => Below w.heap.size w w' ∧ ProvedR l true (proofF l b) b w w' r) := by
  refine calls_W (vs := [_, _]) Try.func18 rfl (by kernel_rfl) rfl ?_
  (repeat (first | with_reducible refine W.seq ?_ | with_reducible refine Ops.nil ?_ | with_reducible refine W.region ?_ | refine Ops.pu rfl rfl rfl ?_ | refine Ops.ar rfl rfl rfl (by omega) ?_ | refine Ops.yes rfl rfl rfl ?_ | refine Ops.no rfl rfl rfl rfl rfl ?_ | refine Ops.nu rfl rfl rfl rfl ?_ | with_reducible refine W.skip ?_ | with_reducible refine W.endb ?_ | with_reducible refine W.block ?_ | refine W.exit rfl ?_ | refine Ops.len rfl rfl rfl rfl rfl ?_ | refine Ops.flp rfl rfl rfl rfl rfl ?_ | refine Ops.max rfl rfl rfl rfl rfl ?_ | refine Ops.min rfl rfl rfl rfl rfl ?_ | refine Ops.eqB rfl rfl rfl rfl rfl rfl ?_ | refine Ops.neB rfl rfl rfl rfl rfl rfl ?_ | (apply Ops.ldB rfl rfl rfl rfl rfl; assumption; rfl)))
  refine Ops.box rfl rfl rfl rfl (fun w1 bb hM1 => ?_)
  have hb1 : Below w.heap.size w w1 := hM1.kp.below (Nat.le_refl _) (fun _ _ e => e)
  (repeat (first | with_reducible refine W.seq ?_ | with_reducible refine Ops.nil ?_ | with_reducible refine W.region ?_ | refine Ops.pu rfl rfl rfl ?_ | refine Ops.ar rfl rfl rfl (by omega) ?_ | refine Ops.yes rfl rfl rfl ?_ | refine Ops.no rfl rfl rfl rfl rfl ?_ | refine Ops.nu rfl rfl rfl rfl ?_ | with_reducible refine W.skip ?_ | with_reducible refine W.endb ?_ | with_reducible refine W.block ?_ | refine W.exit rfl ?_ | refine Ops.len rfl rfl rfl rfl rfl ?_ | refine Ops.flp rfl rfl rfl rfl rfl ?_ | refine Ops.max rfl rfl rfl rfl rfl ?_ | refine Ops.min rfl rfl rfl rfl rfl ?_ | refine Ops.eqB rfl rfl rfl rfl rfl rfl ?_ | refine Ops.neB rfl rfl rfl rfl rfl rfl ?_ | (apply Ops.ldB rfl rfl rfl rfl rfl; assumption; rfl)))
  refine Ops.call rfl rfl rfl rfl rfl (newGame_c (hT.below hb1) hl) (fun r w2 hR => ?_)
  obtain ⟨hb2, hR⟩ := hR
  have hBB2 : Blk w2 bb #[.int .i64 b] 3 := Blk.kp hM1.at_ (Kp.of_below (S := fun _ => False) hb2) (fun e => e)
  have hb02 := hb1.trans (hb2.mono hb1.size)
  cases hg : gameOf l with
  | none =>
    rw [hg] at hR
    obtain ⟨p, hp1, rfl⟩ := hR
    (repeat (first | with_reducible refine W.seq ?_ | with_reducible refine Ops.nil ?_ | with_reducible refine W.region ?_ | refine Ops.pu rfl rfl rfl ?_ | refine Ops.ar rfl rfl rfl (by omega) ?_ | refine Ops.yes rfl rfl rfl ?_ | refine Ops.no rfl rfl rfl rfl rfl ?_ | refine Ops.nu rfl rfl rfl rfl ?_ | with_reducible refine W.skip ?_ | with_reducible refine W.endb ?_ | with_reducible refine W.block ?_ | refine W.exit rfl ?_ | refine Ops.len rfl rfl rfl rfl rfl ?_ | refine Ops.flp rfl rfl rfl rfl rfl ?_ | refine Ops.max rfl rfl rfl rfl rfl ?_ | refine Ops.min rfl rfl rfl rfl rfl ?_ | refine Ops.eqB rfl rfl rfl rfl rfl rfl ?_ | refine Ops.neB rfl rfl rfl rfl rfl rfl ?_ | (apply Ops.ldB rfl rfl rfl rfl rfl; assumption; rfl)))
    refine Ops.alloc rfl rfl rfl rfl (fun w3 g6 hM3 => ?_)
    refine Ops.st rfl rfl rfl rfl rfl rfl hp1 hM3.at_ (by decide) (fun w4 hu => ?_)
    have k4 := hM3.kp.trans hu.kp
    have hb04 : Below w.heap.size w w4 := Below.at_ hb02 k4 (fun i hi => by rcases hi with hi | hi; exact hi.elim; have := hM3.r_eq; have := hb02.size; omega)
    (repeat (first | with_reducible refine W.seq ?_ | with_reducible refine Ops.nil ?_ | with_reducible refine W.region ?_ | refine Ops.pu rfl rfl rfl ?_ | refine Ops.ar rfl rfl rfl (by omega) ?_ | refine Ops.yes rfl rfl rfl ?_ | refine Ops.no rfl rfl rfl rfl rfl ?_ | refine Ops.nu rfl rfl rfl rfl ?_ | with_reducible refine W.skip ?_ | with_reducible refine W.endb ?_ | with_reducible refine W.block ?_ | refine W.exit rfl ?_ | refine Ops.len rfl rfl rfl rfl rfl ?_ | refine Ops.flp rfl rfl rfl rfl rfl ?_ | refine Ops.max rfl rfl rfl rfl rfl ?_ | refine Ops.min rfl rfl rfl rfl rfl ?_ | refine Ops.eqB rfl rfl rfl rfl rfl rfl ?_ | refine Ops.neB rfl rfl rfl rfl rfl rfl ?_ | (apply Ops.ldB rfl rfl rfl rfl rfl; assumption; rfl)))
    refine W.cond rfl (fun hc => ?_) (fun hc => ?_)
    · (repeat (first | with_reducible refine W.seq ?_ | with_reducible refine Ops.nil ?_ | with_reducible refine W.region ?_ | refine Ops.pu rfl rfl rfl ?_ | refine Ops.ar rfl rfl rfl (by omega) ?_ | refine Ops.yes rfl rfl rfl ?_ | refine Ops.no rfl rfl rfl rfl rfl ?_ | refine Ops.nu rfl rfl rfl rfl ?_ | with_reducible refine W.skip ?_ | with_reducible refine W.endb ?_ | with_reducible refine W.block ?_ | refine W.exit rfl ?_ | refine Ops.len rfl rfl rfl rfl rfl ?_ | refine Ops.flp rfl rfl rfl rfl rfl ?_ | refine Ops.max rfl rfl rfl rfl rfl ?_ | refine Ops.min rfl rfl rfl rfl rfl ?_ | refine Ops.eqB rfl rfl rfl rfl rfl rfl ?_ | refine Ops.neB rfl rfl rfl rfl rfl rfl ?_ | (apply Ops.ldB rfl rfl rfl rfl rfl; assumption; rfl)))
      exact W.fret rfl ⟨hb04, by simp only [ProvedR, hg, ite_self]; rfl⟩
    · simp at hc
  | some dep =>
    rw [hg] at hR
    obtain ⟨g, rfl, hgs, hG⟩ := hR
    (repeat (first | with_reducible refine W.seq ?_ | with_reducible refine Ops.nil ?_ | with_reducible refine W.region ?_ | refine Ops.pu rfl rfl rfl ?_ | refine Ops.ar rfl rfl rfl (by omega) ?_ | refine Ops.yes rfl rfl rfl ?_ | refine Ops.no rfl rfl rfl rfl rfl ?_ | refine Ops.nu rfl rfl rfl rfl ?_ | with_reducible refine W.skip ?_ | with_reducible refine W.endb ?_ | with_reducible refine W.block ?_ | refine W.exit rfl ?_ | refine Ops.len rfl rfl rfl rfl rfl ?_ | refine Ops.flp rfl rfl rfl rfl rfl ?_ | refine Ops.max rfl rfl rfl rfl rfl ?_ | refine Ops.min rfl rfl rfl rfl rfl ?_ | refine Ops.eqB rfl rfl rfl rfl rfl rfl ?_ | refine Ops.neB rfl rfl rfl rfl rfl rfl ?_ | (apply Ops.ldB rfl rfl rfl rfl rfl; assumption; rfl)))
    refine Ops.alloc rfl rfl rfl rfl (fun w3 g6 hM3 => ?_)
    refine Ops.st rfl rfl rfl rfl rfl rfl rfl hM3.at_ (by decide) (fun w4 hu => ?_)
    have k4 := hM3.kp.trans hu.kp
    have hb24 : Below w2.heap.size w2 w4 := Below.at_ (Below.refl _ _) k4 (fun i hi => by rcases hi with hi | hi; exact hi.elim; have := hM3.r_eq; omega)
    have hb04 : Below w.heap.size w w4 := hb02.trans (hb24.mono hb02.size)
    have hBB4 := hBB2.kp (Kp.of_below (S := fun _ => False) hb24) (fun e => e)
    have hG4 := hG.below hb24
    have hGB4 : Blk w4 g6 #[.pointer (some ⟨g, 0, none⟩)] 69 := hu.blk
    (repeat (first | with_reducible refine W.seq ?_ | with_reducible refine Ops.nil ?_ | with_reducible refine W.region ?_ | refine Ops.pu rfl rfl rfl ?_ | refine Ops.ar rfl rfl rfl (by omega) ?_ | refine Ops.yes rfl rfl rfl ?_ | refine Ops.no rfl rfl rfl rfl rfl ?_ | refine Ops.nu rfl rfl rfl rfl ?_ | with_reducible refine W.skip ?_ | with_reducible refine W.endb ?_ | with_reducible refine W.block ?_ | refine W.exit rfl ?_ | refine Ops.len rfl rfl rfl rfl rfl ?_ | refine Ops.flp rfl rfl rfl rfl rfl ?_ | refine Ops.max rfl rfl rfl rfl rfl ?_ | refine Ops.min rfl rfl rfl rfl rfl ?_ | refine Ops.eqB rfl rfl rfl rfl rfl rfl ?_ | refine Ops.neB rfl rfl rfl rfl rfl rfl ?_ | (apply Ops.ldB rfl rfl rfl rfl rfl; assumption; rfl)))
    refine Ops.callS rfl rfl rfl rfl rfl (isBound_c _ _) ?_
    (repeat (first | with_reducible refine W.seq ?_ | with_reducible refine Ops.nil ?_ | with_reducible refine W.region ?_ | refine Ops.pu rfl rfl rfl ?_ | refine Ops.ar rfl rfl rfl (by omega) ?_ | refine Ops.yes rfl rfl rfl ?_ | refine Ops.no rfl rfl rfl rfl rfl ?_ | refine Ops.nu rfl rfl rfl rfl ?_ | with_reducible refine W.skip ?_ | with_reducible refine W.endb ?_ | with_reducible refine W.block ?_ | refine W.exit rfl ?_ | refine Ops.len rfl rfl rfl rfl rfl ?_ | refine Ops.flp rfl rfl rfl rfl rfl ?_ | refine Ops.max rfl rfl rfl rfl rfl ?_ | refine Ops.min rfl rfl rfl rfl rfl ?_ | refine Ops.eqB rfl rfl rfl rfl rfl rfl ?_ | refine Ops.neB rfl rfl rfl rfl rfl rfl ?_ | (apply Ops.ldB rfl rfl rfl rfl rfl; assumption; rfl)))
    refine W.cond rfl (fun hc => ?_) (fun hc => ?_)
    · (repeat (first | with_reducible refine W.seq ?_ | with_reducible refine Ops.nil ?_ | with_reducible refine W.region ?_ | refine Ops.pu rfl rfl rfl ?_ | refine Ops.ar rfl rfl rfl (by omega) ?_ | refine Ops.yes rfl rfl rfl ?_ | refine Ops.no rfl rfl rfl rfl rfl ?_ | refine Ops.nu rfl rfl rfl rfl ?_ | with_reducible refine W.skip ?_ | with_reducible refine W.endb ?_ | with_reducible refine W.block ?_ | refine W.exit rfl ?_ | refine Ops.len rfl rfl rfl rfl rfl ?_ | refine Ops.flp rfl rfl rfl rfl rfl ?_ | refine Ops.max rfl rfl rfl rfl rfl ?_ | refine Ops.min rfl rfl rfl rfl rfl ?_ | refine Ops.eqB rfl rfl rfl rfl rfl rfl ?_ | refine Ops.neB rfl rfl rfl rfl rfl rfl ?_ | (apply Ops.ldB rfl rfl rfl rfl rfl; assumption; rfl)))
      exact W.fret rfl ⟨hb04, by simp only [ProvedR]; rw [if_neg (by simp at hc; omega)]; rfl⟩
    · have hbd : -1000 ≤ b ∧ b ≤ 1000 := by simp at hc; omega
      (repeat (first | with_reducible refine W.seq ?_ | with_reducible refine Ops.nil ?_ | with_reducible refine W.region ?_ | refine Ops.pu rfl rfl rfl ?_ | refine Ops.ar rfl rfl rfl (by omega) ?_ | refine Ops.yes rfl rfl rfl ?_ | refine Ops.no rfl rfl rfl rfl rfl ?_ | refine Ops.nu rfl rfl rfl rfl ?_ | with_reducible refine W.skip ?_ | with_reducible refine W.endb ?_ | with_reducible refine W.block ?_ | refine W.exit rfl ?_ | refine Ops.len rfl rfl rfl rfl rfl ?_ | refine Ops.flp rfl rfl rfl rfl rfl ?_ | refine Ops.max rfl rfl rfl rfl rfl ?_ | refine Ops.min rfl rfl rfl rfl rfl ?_ | refine Ops.eqB rfl rfl rfl rfl rfl rfl ?_ | refine Ops.neB rfl rfl rfl rfl rfl rfl ?_ | (apply Ops.ldB rfl rfl rfl rfl rfl; assumption; rfl)))
      refine Ops.call rfl rfl rfl rfl rfl (proved_c (lf := proofF l b) hG4 (gameOf_TF hg) ⟨58, [], [.pointer (some ⟨g6, 0, none⟩), .pointer (some ⟨bb, 0, none⟩)], rfl, rfl, fun i w' hb' hi => proof1_c (hG4.below hb') (hGB4.kp (Kp.of_below (S := fun _ => False) hb') (fun e => e)) (hBB4.kp (Kp.of_below (S := fun _ => False) hb') (fun e => e)) i hi.1 hi.2.1⟩ (fun i _ => costV_bd _)) (fun r w5 hR => ?_)
      obtain ⟨hb5, es, hN, hGd, hR⟩ := hR
      have hb05 := hb04.trans (hb5.mono hb04.size)
      have hfin : ProvedR l true (proofF l b) b w w5 r := by
        simp only [ProvedR]
        rw [if_pos hbd, hg]
        refine ⟨es, hN, hGd, ?_⟩
        rcases hR with h | ⟨h1, v', h2, h3⟩
        · exact .inl h
        · exact .inr ⟨h1, v', h2, ⟨hb05, h3.own, fun k hk => Nat.le_trans hb04.size (h3.ge k hk)⟩⟩
      rcases hR with ⟨_, rfl⟩ | ⟨_, v', rfl, _⟩
      · (repeat (first | with_reducible refine W.seq ?_ | with_reducible refine Ops.nil ?_ | with_reducible refine W.region ?_ | refine Ops.pu rfl rfl rfl ?_ | refine Ops.ar rfl rfl rfl (by omega) ?_ | refine Ops.yes rfl rfl rfl ?_ | refine Ops.no rfl rfl rfl rfl rfl ?_ | refine Ops.nu rfl rfl rfl rfl ?_ | with_reducible refine W.skip ?_ | with_reducible refine W.endb ?_ | with_reducible refine W.block ?_ | refine W.exit rfl ?_ | refine Ops.len rfl rfl rfl rfl rfl ?_ | refine Ops.flp rfl rfl rfl rfl rfl ?_ | refine Ops.max rfl rfl rfl rfl rfl ?_ | refine Ops.min rfl rfl rfl rfl rfl ?_ | refine Ops.eqB rfl rfl rfl rfl rfl rfl ?_ | refine Ops.neB rfl rfl rfl rfl rfl rfl ?_ | (apply Ops.ldB rfl rfl rfl rfl rfl; assumption; rfl)))
        exact W.fret rfl ⟨hb05, hfin⟩
      · (repeat (first | with_reducible refine W.seq ?_ | with_reducible refine Ops.nil ?_ | with_reducible refine W.region ?_ | refine Ops.pu rfl rfl rfl ?_ | refine Ops.ar rfl rfl rfl (by omega) ?_ | refine Ops.yes rfl rfl rfl ?_ | refine Ops.no rfl rfl rfl rfl rfl ?_ | refine Ops.nu rfl rfl rfl rfl ?_ | with_reducible refine W.skip ?_ | with_reducible refine W.endb ?_ | with_reducible refine W.block ?_ | refine W.exit rfl ?_ | refine Ops.len rfl rfl rfl rfl rfl ?_ | refine Ops.flp rfl rfl rfl rfl rfl ?_ | refine Ops.max rfl rfl rfl rfl rfl ?_ | refine Ops.min rfl rfl rfl rfl rfl ?_ | refine Ops.eqB rfl rfl rfl rfl rfl rfl ?_ | refine Ops.neB rfl rfl rfl rfl rfl rfl ?_ | (apply Ops.ldB rfl rfl rfl rfl rfl; assumption; rfl)))
        exact W.fret rfl ⟨hb05, hfin⟩
theorem refute_c {w : World} {v : Value} {l : List Nd} {b : Int} (hT : TreeM w v l) (hl : l.length ≤ 9223372036854775807) :
    Calls Try.prog 19 #[v, .int .i64 b] w (Ret fun r w' => Below w.heap.size w w' ∧ ProvedR l false (refuteF l b) b w w' r) := by
  refine calls_W (vs := [_, _]) Try.func19 rfl (by kernel_rfl) rfl ?_
  (repeat (first | with_reducible refine W.seq ?_ | with_reducible refine Ops.nil ?_ | with_reducible refine W.region ?_ | refine Ops.pu rfl rfl rfl ?_ | refine Ops.ar rfl rfl rfl (by omega) ?_ | refine Ops.yes rfl rfl rfl ?_ | refine Ops.no rfl rfl rfl rfl rfl ?_ | refine Ops.nu rfl rfl rfl rfl ?_ | with_reducible refine W.skip ?_ | with_reducible refine W.endb ?_ | with_reducible refine W.block ?_ | refine W.exit rfl ?_ | refine Ops.len rfl rfl rfl rfl rfl ?_ | refine Ops.flp rfl rfl rfl rfl rfl ?_ | refine Ops.max rfl rfl rfl rfl rfl ?_ | refine Ops.min rfl rfl rfl rfl rfl ?_ | refine Ops.eqB rfl rfl rfl rfl rfl rfl ?_ | refine Ops.neB rfl rfl rfl rfl rfl rfl ?_ | (apply Ops.ldB rfl rfl rfl rfl rfl; assumption; rfl)))
  refine Ops.box rfl rfl rfl rfl (fun w1 bb hM1 => ?_)
  have hb1 : Below w.heap.size w w1 := hM1.kp.below (Nat.le_refl _) (fun _ _ e => e)
  (repeat (first | with_reducible refine W.seq ?_ | with_reducible refine Ops.nil ?_ | with_reducible refine W.region ?_ | refine Ops.pu rfl rfl rfl ?_ | refine Ops.ar rfl rfl rfl (by omega) ?_ | refine Ops.yes rfl rfl rfl ?_ | refine Ops.no rfl rfl rfl rfl rfl ?_ | refine Ops.nu rfl rfl rfl rfl ?_ | with_reducible refine W.skip ?_ | with_reducible refine W.endb ?_ | with_reducible refine W.block ?_ | refine W.exit rfl ?_ | refine Ops.len rfl rfl rfl rfl rfl ?_ | refine Ops.flp rfl rfl rfl rfl rfl ?_ | refine Ops.max rfl rfl rfl rfl rfl ?_ | refine Ops.min rfl rfl rfl rfl rfl ?_ | refine Ops.eqB rfl rfl rfl rfl rfl rfl ?_ | refine Ops.neB rfl rfl rfl rfl rfl rfl ?_ | (apply Ops.ldB rfl rfl rfl rfl rfl; assumption; rfl)))
  refine Ops.call rfl rfl rfl rfl rfl (newGame_c (hT.below hb1) hl) (fun r w2 hR => ?_)
  obtain ⟨hb2, hR⟩ := hR
  have hBB2 : Blk w2 bb #[.int .i64 b] 3 := Blk.kp hM1.at_ (Kp.of_below (S := fun _ => False) hb2) (fun e => e)
  have hb02 := hb1.trans (hb2.mono hb1.size)
  cases hg : gameOf l with
  | none =>
    rw [hg] at hR
    obtain ⟨p, hp1, rfl⟩ := hR
    (repeat (first | with_reducible refine W.seq ?_ | with_reducible refine Ops.nil ?_ | with_reducible refine W.region ?_ | refine Ops.pu rfl rfl rfl ?_ | refine Ops.ar rfl rfl rfl (by omega) ?_ | refine Ops.yes rfl rfl rfl ?_ | refine Ops.no rfl rfl rfl rfl rfl ?_ | refine Ops.nu rfl rfl rfl rfl ?_ | with_reducible refine W.skip ?_ | with_reducible refine W.endb ?_ | with_reducible refine W.block ?_ | refine W.exit rfl ?_ | refine Ops.len rfl rfl rfl rfl rfl ?_ | refine Ops.flp rfl rfl rfl rfl rfl ?_ | refine Ops.max rfl rfl rfl rfl rfl ?_ | refine Ops.min rfl rfl rfl rfl rfl ?_ | refine Ops.eqB rfl rfl rfl rfl rfl rfl ?_ | refine Ops.neB rfl rfl rfl rfl rfl rfl ?_ | (apply Ops.ldB rfl rfl rfl rfl rfl; assumption; rfl)))
    refine Ops.alloc rfl rfl rfl rfl (fun w3 g6 hM3 => ?_)
    refine Ops.st rfl rfl rfl rfl rfl rfl hp1 hM3.at_ (by decide) (fun w4 hu => ?_)
    have k4 := hM3.kp.trans hu.kp
    have hb04 : Below w.heap.size w w4 := Below.at_ hb02 k4 (fun i hi => by rcases hi with hi | hi; exact hi.elim; have := hM3.r_eq; have := hb02.size; omega)
    (repeat (first | with_reducible refine W.seq ?_ | with_reducible refine Ops.nil ?_ | with_reducible refine W.region ?_ | refine Ops.pu rfl rfl rfl ?_ | refine Ops.ar rfl rfl rfl (by omega) ?_ | refine Ops.yes rfl rfl rfl ?_ | refine Ops.no rfl rfl rfl rfl rfl ?_ | refine Ops.nu rfl rfl rfl rfl ?_ | with_reducible refine W.skip ?_ | with_reducible refine W.endb ?_ | with_reducible refine W.block ?_ | refine W.exit rfl ?_ | refine Ops.len rfl rfl rfl rfl rfl ?_ | refine Ops.flp rfl rfl rfl rfl rfl ?_ | refine Ops.max rfl rfl rfl rfl rfl ?_ | refine Ops.min rfl rfl rfl rfl rfl ?_ | refine Ops.eqB rfl rfl rfl rfl rfl rfl ?_ | refine Ops.neB rfl rfl rfl rfl rfl rfl ?_ | (apply Ops.ldB rfl rfl rfl rfl rfl; assumption; rfl)))
    refine W.cond rfl (fun hc => ?_) (fun hc => ?_)
    · (repeat (first | with_reducible refine W.seq ?_ | with_reducible refine Ops.nil ?_ | with_reducible refine W.region ?_ | refine Ops.pu rfl rfl rfl ?_ | refine Ops.ar rfl rfl rfl (by omega) ?_ | refine Ops.yes rfl rfl rfl ?_ | refine Ops.no rfl rfl rfl rfl rfl ?_ | refine Ops.nu rfl rfl rfl rfl ?_ | with_reducible refine W.skip ?_ | with_reducible refine W.endb ?_ | with_reducible refine W.block ?_ | refine W.exit rfl ?_ | refine Ops.len rfl rfl rfl rfl rfl ?_ | refine Ops.flp rfl rfl rfl rfl rfl ?_ | refine Ops.max rfl rfl rfl rfl rfl ?_ | refine Ops.min rfl rfl rfl rfl rfl ?_ | refine Ops.eqB rfl rfl rfl rfl rfl rfl ?_ | refine Ops.neB rfl rfl rfl rfl rfl rfl ?_ | (apply Ops.ldB rfl rfl rfl rfl rfl; assumption; rfl)))
      exact W.fret rfl ⟨hb04, by simp only [ProvedR, hg, ite_self]; rfl⟩
    · simp at hc
  | some dep =>
    rw [hg] at hR
    obtain ⟨g, rfl, hgs, hG⟩ := hR
    (repeat (first | with_reducible refine W.seq ?_ | with_reducible refine Ops.nil ?_ | with_reducible refine W.region ?_ | refine Ops.pu rfl rfl rfl ?_ | refine Ops.ar rfl rfl rfl (by omega) ?_ | refine Ops.yes rfl rfl rfl ?_ | refine Ops.no rfl rfl rfl rfl rfl ?_ | refine Ops.nu rfl rfl rfl rfl ?_ | with_reducible refine W.skip ?_ | with_reducible refine W.endb ?_ | with_reducible refine W.block ?_ | refine W.exit rfl ?_ | refine Ops.len rfl rfl rfl rfl rfl ?_ | refine Ops.flp rfl rfl rfl rfl rfl ?_ | refine Ops.max rfl rfl rfl rfl rfl ?_ | refine Ops.min rfl rfl rfl rfl rfl ?_ | refine Ops.eqB rfl rfl rfl rfl rfl rfl ?_ | refine Ops.neB rfl rfl rfl rfl rfl rfl ?_ | (apply Ops.ldB rfl rfl rfl rfl rfl; assumption; rfl)))
    refine Ops.alloc rfl rfl rfl rfl (fun w3 g6 hM3 => ?_)
    refine Ops.st rfl rfl rfl rfl rfl rfl rfl hM3.at_ (by decide) (fun w4 hu => ?_)
    have k4 := hM3.kp.trans hu.kp
    have hb24 : Below w2.heap.size w2 w4 := Below.at_ (Below.refl _ _) k4 (fun i hi => by rcases hi with hi | hi; exact hi.elim; have := hM3.r_eq; omega)
    have hb04 : Below w.heap.size w w4 := hb02.trans (hb24.mono hb02.size)
    have hBB4 := hBB2.kp (Kp.of_below (S := fun _ => False) hb24) (fun e => e)
    have hG4 := hG.below hb24
    have hGB4 : Blk w4 g6 #[.pointer (some ⟨g, 0, none⟩)] 69 := hu.blk
    (repeat (first | with_reducible refine W.seq ?_ | with_reducible refine Ops.nil ?_ | with_reducible refine W.region ?_ | refine Ops.pu rfl rfl rfl ?_ | refine Ops.ar rfl rfl rfl (by omega) ?_ | refine Ops.yes rfl rfl rfl ?_ | refine Ops.no rfl rfl rfl rfl rfl ?_ | refine Ops.nu rfl rfl rfl rfl ?_ | with_reducible refine W.skip ?_ | with_reducible refine W.endb ?_ | with_reducible refine W.block ?_ | refine W.exit rfl ?_ | refine Ops.len rfl rfl rfl rfl rfl ?_ | refine Ops.flp rfl rfl rfl rfl rfl ?_ | refine Ops.max rfl rfl rfl rfl rfl ?_ | refine Ops.min rfl rfl rfl rfl rfl ?_ | refine Ops.eqB rfl rfl rfl rfl rfl rfl ?_ | refine Ops.neB rfl rfl rfl rfl rfl rfl ?_ | (apply Ops.ldB rfl rfl rfl rfl rfl; assumption; rfl)))
    refine Ops.callS rfl rfl rfl rfl rfl (isBound_c _ _) ?_
    (repeat (first | with_reducible refine W.seq ?_ | with_reducible refine Ops.nil ?_ | with_reducible refine W.region ?_ | refine Ops.pu rfl rfl rfl ?_ | refine Ops.ar rfl rfl rfl (by omega) ?_ | refine Ops.yes rfl rfl rfl ?_ | refine Ops.no rfl rfl rfl rfl rfl ?_ | refine Ops.nu rfl rfl rfl rfl ?_ | with_reducible refine W.skip ?_ | with_reducible refine W.endb ?_ | with_reducible refine W.block ?_ | refine W.exit rfl ?_ | refine Ops.len rfl rfl rfl rfl rfl ?_ | refine Ops.flp rfl rfl rfl rfl rfl ?_ | refine Ops.max rfl rfl rfl rfl rfl ?_ | refine Ops.min rfl rfl rfl rfl rfl ?_ | refine Ops.eqB rfl rfl rfl rfl rfl rfl ?_ | refine Ops.neB rfl rfl rfl rfl rfl rfl ?_ | (apply Ops.ldB rfl rfl rfl rfl rfl; assumption; rfl)))
    refine W.cond rfl (fun hc => ?_) (fun hc => ?_)
    · (repeat (first | with_reducible refine W.seq ?_ | with_reducible refine Ops.nil ?_ | with_reducible refine W.region ?_ | refine Ops.pu rfl rfl rfl ?_ | refine Ops.ar rfl rfl rfl (by omega) ?_ | refine Ops.yes rfl rfl rfl ?_ | refine Ops.no rfl rfl rfl rfl rfl ?_ | refine Ops.nu rfl rfl rfl rfl ?_ | with_reducible refine W.skip ?_ | with_reducible refine W.endb ?_ | with_reducible refine W.block ?_ | refine W.exit rfl ?_ | refine Ops.len rfl rfl rfl rfl rfl ?_ | refine Ops.flp rfl rfl rfl rfl rfl ?_ | refine Ops.max rfl rfl rfl rfl rfl ?_ | refine Ops.min rfl rfl rfl rfl rfl ?_ | refine Ops.eqB rfl rfl rfl rfl rfl rfl ?_ | refine Ops.neB rfl rfl rfl rfl rfl rfl ?_ | (apply Ops.ldB rfl rfl rfl rfl rfl; assumption; rfl)))
      exact W.fret rfl ⟨hb04, by simp only [ProvedR]; rw [if_neg (by simp at hc; omega)]; rfl⟩
    · have hbd : -1000 ≤ b ∧ b ≤ 1000 := by simp at hc; omega
      (repeat (first | with_reducible refine W.seq ?_ | with_reducible refine Ops.nil ?_ | with_reducible refine W.region ?_ | refine Ops.pu rfl rfl rfl ?_ | refine Ops.ar rfl rfl rfl (by omega) ?_ | refine Ops.yes rfl rfl rfl ?_ | refine Ops.no rfl rfl rfl rfl rfl ?_ | refine Ops.nu rfl rfl rfl rfl ?_ | with_reducible refine W.skip ?_ | with_reducible refine W.endb ?_ | with_reducible refine W.block ?_ | refine W.exit rfl ?_ | refine Ops.len rfl rfl rfl rfl rfl ?_ | refine Ops.flp rfl rfl rfl rfl rfl ?_ | refine Ops.max rfl rfl rfl rfl rfl ?_ | refine Ops.min rfl rfl rfl rfl rfl ?_ | refine Ops.eqB rfl rfl rfl rfl rfl rfl ?_ | refine Ops.neB rfl rfl rfl rfl rfl rfl ?_ | (apply Ops.ldB rfl rfl rfl rfl rfl; assumption; rfl)))
      refine Ops.call rfl rfl rfl rfl rfl (proved_c (lf := refuteF l b) hG4 (gameOf_TF hg) ⟨61, [], [.pointer (some ⟨g6, 0, none⟩), .pointer (some ⟨bb, 0, none⟩)], rfl, rfl, fun i w' hb' hi => refute1_c (hG4.below hb') (hGB4.kp (Kp.of_below (S := fun _ => False) hb') (fun e => e)) (hBB4.kp (Kp.of_below (S := fun _ => False) hb') (fun e => e)) i hi.1 hi.2.1⟩ (fun i _ => costV_bd _)) (fun r w5 hR => ?_)
      obtain ⟨hb5, es, hN, hGd, hR⟩ := hR
      have hb05 := hb04.trans (hb5.mono hb04.size)
      have hfin : ProvedR l false (refuteF l b) b w w5 r := by
        simp only [ProvedR]
        rw [if_pos hbd, hg]
        refine ⟨es, hN, hGd, ?_⟩
        rcases hR with h | ⟨h1, v', h2, h3⟩
        · exact .inl h
        · exact .inr ⟨h1, v', h2, ⟨hb05, h3.own, fun k hk => Nat.le_trans hb04.size (h3.ge k hk)⟩⟩
      rcases hR with ⟨_, rfl⟩ | ⟨_, v', rfl, _⟩
      · (repeat (first | with_reducible refine W.seq ?_ | with_reducible refine Ops.nil ?_ | with_reducible refine W.region ?_ | refine Ops.pu rfl rfl rfl ?_ | refine Ops.ar rfl rfl rfl (by omega) ?_ | refine Ops.yes rfl rfl rfl ?_ | refine Ops.no rfl rfl rfl rfl rfl ?_ | refine Ops.nu rfl rfl rfl rfl ?_ | with_reducible refine W.skip ?_ | with_reducible refine W.endb ?_ | with_reducible refine W.block ?_ | refine W.exit rfl ?_ | refine Ops.len rfl rfl rfl rfl rfl ?_ | refine Ops.flp rfl rfl rfl rfl rfl ?_ | refine Ops.max rfl rfl rfl rfl rfl ?_ | refine Ops.min rfl rfl rfl rfl rfl ?_ | refine Ops.eqB rfl rfl rfl rfl rfl rfl ?_ | refine Ops.neB rfl rfl rfl rfl rfl rfl ?_ | (apply Ops.ldB rfl rfl rfl rfl rfl; assumption; rfl)))
        exact W.fret rfl ⟨hb05, hfin⟩
      · (repeat (first | with_reducible refine W.seq ?_ | with_reducible refine Ops.nil ?_ | with_reducible refine W.region ?_ | refine Ops.pu rfl rfl rfl ?_ | refine Ops.ar rfl rfl rfl (by omega) ?_ | refine Ops.yes rfl rfl rfl ?_ | refine Ops.no rfl rfl rfl rfl rfl ?_ | refine Ops.nu rfl rfl rfl rfl ?_ | with_reducible refine W.skip ?_ | with_reducible refine W.endb ?_ | with_reducible refine W.block ?_ | refine W.exit rfl ?_ | refine Ops.len rfl rfl rfl rfl rfl ?_ | refine Ops.flp rfl rfl rfl rfl rfl ?_ | refine Ops.max rfl rfl rfl rfl rfl ?_ | refine Ops.min rfl rfl rfl rfl rfl ?_ | refine Ops.eqB rfl rfl rfl rfl rfl rfl ?_ | refine Ops.neB rfl rfl rfl rfl rfl rfl ?_ | (apply Ops.ldB rfl rfl rfl rfl rfl; assumption; rfl)))
        exact W.fret rfl ⟨hb05, hfin⟩
end Go.Proofs.Ytdiljpnfochndaa
